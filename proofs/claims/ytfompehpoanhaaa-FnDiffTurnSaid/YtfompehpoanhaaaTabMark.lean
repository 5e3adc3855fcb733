/- Marks that the laws lay into tables and look for again. -/
import Derived.Test.YtfompehpoanhaaaTabEqI
import Derived.Test.YtfompehpoanhaaaOwn
import Derived.Test.YtfompehpoanhaaaTabEqB
/- Marks that the laws lay into tables and look for again. -/
namespace Go.Proofs.Ytfompehpoanhaaa
open Go.RowKit Go.DC
def mkI (z : Int) : Int := z
def markRowI (k : Int) (n : Nat) : List Int := (List.range n).map fun (i : Nat) => mkI (k + i)
def markTI (k : Int) : List (List Int) → List (List Int)
  | [] => []
  | r :: t => markRowI k r.length :: markTI (k + r.length) t
theorem markRowI_length (k : Int) (n : Nat) : (markRowI k n).length = n := by simp [markRowI]
theorem markTI_length (k : Int) (t : List (List Int)) : (markTI k t).length = t.length := by
  induction t generalizing k with
  | nil => rfl
  | cons r t ih => simp [markTI, ih]
theorem markTI_take (k : Int) (t : List (List Int)) : ∀ i (h : i < t.length), markTI k (t.take (i + 1)) = markTI k (t.take i) ++ [markRowI (k + sizeI (t.take i)) t[i].length] := by
  induction t generalizing k with
  | nil => intro i h; simp at h
  | cons r t ih =>
    intro i h
    cases i with
    | zero => simp [markTI, sizeI]
    | succ i =>
      have := ih (k + r.length) i (by simpa using h)
      simp only [List.take_succ_cons, markTI, List.cons_append, List.getElem_cons_succ] at this ⊢
      rw [this]
      simp only [sizeI, List.map_cons, List.sum_cons, List.cons.injEq, true_and]
      congr 2
      congr 1
      omega
theorem markTI_take_eq (k : Int) (t : List (List Int)) (j : Nat) : markTI k (t.take j) = (markTI k t).take j := by
  induction t generalizing k j with
  | nil => simp [markTI]
  | cons r t ih =>
    cases j with
    | zero => simp [markTI]
    | succ j => simp [markTI, ih]
theorem mix_at (k : Int) (t : List (List Int)) (j l : Nat) (hj : j ≤ t.length) : (markTI k (t.take j) ++ t.drop j)[l]? = if l < j then (markTI k t)[l]? else t[l]? := by
  have hl : (markTI k (t.take j)).length = j := by rw [markTI_length, List.length_take]; omega
  by_cases h : l < j
  · rw [if_pos h, List.getElem?_append_left (by rw [hl]; exact h), markTI_take_eq, List.getElem?_take, if_pos h]
  · rw [if_neg h, List.getElem?_append_right (by rw [hl]; omega), hl, List.getElem?_drop]
    congr 1; omega
theorem markTI_at (k : Int) (t : List (List Int)) (i : Nat) (h : i < (markTI k t).length) (h' : i < t.length) : (markTI k t)[i] = markRowI (k + sizeI (t.take i)) t[i].length := by
  induction t generalizing k i with
  | nil => simp at h'
  | cons r t ih =>
    cases i with
    | zero => simp [markTI, sizeI]
    | succ i =>
      have := ih (k + r.length) i (by simpa [markTI] using h) (by simpa using h')
      simp only [markTI, List.getElem_cons_succ, List.take_succ_cons, this]
      congr 1
      simp [sizeI]; omega
theorem set_mark {z : Int} {k : Int} {n i : Nat} {zs : List Int} (hz : z = mkI (k + i)) (hn : zs.length = n) (hi : i < n) :
    (markRowI k i ++ zs.drop i).set i z = markRowI k (i + 1) ++ zs.drop (i + 1) := by
  subst hn
  apply List.ext_getElem?
  intro j
  have h1 : (markRowI k i).length = i := markRowI_length k i
  have h2 : (markRowI k (i + 1)).length = i + 1 := markRowI_length k (i + 1)
  rw [List.getElem?_set]
  by_cases e : i = j
  · subst e
    rw [if_pos rfl, if_pos (by simp [h1]; omega), List.getElem?_append_left (by rw [h2]; omega), hz]
    simp [markRowI]
  · rw [if_neg e]
    by_cases h : j < i
    · rw [List.getElem?_append_left (by rw [h1]; exact h), List.getElem?_append_left (by rw [h2]; omega)]
      simp [markRowI, h, show j < i + 1 by omega]
    · rw [List.getElem?_append_right (by rw [h1]; omega), List.getElem?_append_right (by rw [h2]; omega), h1, h2, List.getElem?_drop, List.getElem?_drop]
      congr 1; omega
set_option maxHeartbeats 1000000 in
theorem markIntS_any (a : Option Addr) (c B : Nat) (zs : List Int) (k : Int) (w : World) (own : w.ownsRow B 3 1 (.slice a zs.length c) zs.length (zs.map encI)) (hk0 : 0 ≤ k) (hk1 : k ≤ 100000000) (hl : zs.length ≤ 2000000) :
    Calls Try.prog 51 #[.slice a zs.length c, .int .i64 k] w fun e w' => e = .returned (.int .i64 (k + zs.length)) ∧ w'.ownsRow B 3 1 (.slice a zs.length c) zs.length ((markRowI k zs.length).map encI) ∧ Only (fun b => (Value.slice a zs.length c).ownBlock = some b) w w' := by
  go_enter Try.func51, Try.ntmps51
  go_wp2_with fail
  go_loopg [1, 5] zs.length (fun g v i wr => ∃ j : Nat, j ≤ zs.length ∧ g = zs.length - j ∧ i = .int .i64 j ∧ v = .int .i64 (k + j) ∧ wr.ownsRow B 3 1 (.slice a zs.length c) zs.length ((markRowI k j ++ zs.drop j).map encI) ∧ Only (fun b => (Value.slice a zs.length c).ownBlock = some b) w wr)
  case atStart => exact ⟨0, Nat.zero_le _, rfl, rfl, by simp, by simpa [markRowI] using own, Only.refl _ _⟩
  case round =>
    clear own
    obtain ⟨j, hj, rfl, rfl, rfl, own, honly⟩ := hrel
    by_cases hlt : j < zs.length
    · have hz : (j : Int) < (zs.length : Int) := by omega
      obtain ⟨ad, cd, ev, _, hx⟩ := owns_cells own
      cases ev
      obtain ⟨g, rfl, _, hcell, hfr⟩ := hx j _ (List.getElem?_eq_getElem (by simp [markRowI]; omega))
      clear hx
      have hst := (World.ownsRow.stored own j (encI (mkI (k + j)))).1
      rw [← List.map_set, set_mark rfl rfl hlt] at hst
      have HS := Lib.hid hst; clear hst own
      unfold encI mkI at HS
      go_wp2_with fail
      go_roundg (zs.length - (j + 1))
      case measure => omega
      case rel => exact ⟨j + 1, by omega, rfl, by go_num, by go_num, HS.out, honly.setCell (p := ⟨g, j, none⟩) rfl _⟩
    · have hz : ¬ (j : Int) < (zs.length : Int) := by omega
      have hjl : j = zs.length := by omega
      have HJ := Lib.hid hjl; clear hjl
      go_wp2_with fail
      go_ret
      have := HJ.out
      subst this
      exact ⟨rfl, by simpa using own, honly⟩
set_option maxHeartbeats 1000000 in
theorem markIntSS_any (v : Value) (vs : List Value) (B : Nat) (a : Option Addr) (c : Nat) (t : List (List Int)) (k : Int) (w : World) (hv : v = .slice a t.length c) (own : OwnI w B v vs t) (hk0 : 0 ≤ k) (hk1 : k ≤ 10000000) (hl : t.length ≤ 2000000) (hs : sizeI t ≤ 2000000) :
    Calls Try.prog 20 #[.slice a t.length c, .int .i64 k] w fun e w' => e = .returned (.int .i64 (k + sizeI t)) ∧ OwnI w' B v vs (markTI k t) ∧ Only (Blocks vs) w w' := by
  have hle : ∀ i (h : i < t.length), sizeI (t.take i) + t[i].length ≤ sizeI t := fun i h => by
    rw [← sizeI_take t i h]
    have : sizeI t = sizeI (t.take (i + 1)) + sizeI (t.drop (i + 1)) := by
      unfold sizeI; rw [← List.sum_append, ← List.map_append, List.take_append_drop]
    omega
  have HLE := Lib.hid hle; clear hle
  subst hv
  go_enter Try.func20, Try.ntmps20
  go_wp2_with fail
  go_loopg [1, 5] t.length (fun g x i wr => ∃ j : Nat, j ≤ t.length ∧ g = t.length - j ∧ i = .int .i64 j ∧ x = .int .i64 (k + sizeI (t.take j)) ∧ OwnI wr B (.slice a t.length c) vs (markTI k (t.take j) ++ t.drop j) ∧ Only (Blocks vs) w wr)
  case atStart => exact ⟨0, Nat.zero_le _, rfl, rfl, by simp [sizeI], by simpa [markTI] using own, Only.refl _ _⟩
  case round =>
    clear own
    obtain ⟨j, hj, rfl, rfl, rfl, own, honly⟩ := hrel
    by_cases hlt : j < t.length
    · have hz : (j : Int) < (t.length : Int) := by omega
      have hlen : (markTI k (t.take j) ++ t.drop j).length = t.length := by simp [markTI_length]; omega
      have hj' : j < vs.length := by rw [own.len, hlen]; exact hlt
      have hat : (markTI k (t.take j) ++ t.drop j)[j]'(by rw [hlen]; exact hlt) = t[j] := by
        rw [List.getElem_append_right (by rw [markTI_length]; simp; omega)]
        simp [markTI_length, Nat.min_eq_left hj]
      have hin := own.inner j (by rw [hlen]; exact hlt) hj'
      rw [hat] at hin
      obtain ⟨av, cv, ev, _, hx⟩ := owns_cells own.outer
      obtain ⟨g, eg, _, hcell, hfr⟩ := hx j vs[j] (List.getElem?_eq_getElem hj')
      rw [hlen] at ev
      cases ev
      subst eg
      obtain ⟨ak, ck, ek, _, _⟩ := owns_cells hin
      rw [ek] at hcell hin
      have hsz := HLE.out j hlt
      have HIN := Lib.hid hin
      have HEK := Lib.hid ek
      have OW := Lib.hid own
      clear hx hin own ek hat
      go_wp2_with fail
      refine (markIntS_any ak ck B t[j] _ _ HIN.out (by omega) (by omega) (by omega)).mono ?_
      rintro e w1 ⟨rfl, hrow, hon⟩
      have hon2 : Only (Blocks vs) w w1 := honly.trans (hon.mono (fun b hb => ⟨vs[j], List.getElem_mem hj', by rw [HEK.out]; exact hb⟩))
      have own2 : OwnI w1 B (.slice (some ⟨g, 0, none⟩) t.length c) vs (markTI k (t.take (j + 1)) ++ t.drop (j + 1)) := by
        have o := OW.out
        refine ⟨by rw [o.len, hlen]; simp [markTI_length]; omega, ?_, fun l hl hl' => ?_, o.apart, o.away⟩
        · have := owns_only o.outer hon (fun b hb hb2 => o.away j hj' b hb (by rw [HEK.out]; exact hb2))
          simpa [markTI_length, hlen, Nat.min_eq_left hj, Nat.min_eq_left (show j + 1 ≤ t.length from hlt), show j + 1 + (t.length - (j + 1)) = t.length by omega, show j + (t.length - j) = t.length by omega] using this
        · have hlt' : l < t.length := by simpa [markTI_length, Nat.min_eq_left (show j + 1 ≤ t.length from hlt), show j + 1 + (t.length - (j + 1)) = t.length by omega] using hl
          by_cases e : l = j
          · subst e
            rw [HEK.out]
            have e2 : (markTI k (t.take (l + 1)) ++ t.drop (l + 1))[l]'hl = markRowI (k + sizeI (t.take l)) t[l].length := by
              rw [List.getElem_append_left (by rw [markTI_length]; simp; omega), markTI_at _ _ _ _ (by simp; omega)]
              simp [List.take_take]
            rw [e2, markRowI_length]
            exact hrow
          · have e2 : (markTI k (t.take (j + 1)) ++ t.drop (j + 1))[l]'hl = (markTI k (t.take j) ++ t.drop j)[l]'(by rw [hlen]; exact hlt') := by
              rw [← Option.some_inj, ← List.getElem?_eq_getElem, ← List.getElem?_eq_getElem, mix_at k t (j + 1) l hlt, mix_at k t j l hj]
              by_cases h3 : l < j
              · rw [if_pos h3, if_pos (by omega)]
              · rw [if_neg h3, if_neg (by omega)]
            rw [e2]
            exact owns_only (o.inner l (by rw [hlen]; exact hlt') hl') hon (fun b hb hb2 => o.apart l j hl' hj' e b hb (by rw [HEK.out]; exact hb2))
      have hnum : k + (sizeI (t.take j) : Int) + (t[j].length : Int) = k + (sizeI (t.take (j + 1)) : Int) := by rw [sizeI_take t j hlt]; omega
      have HNU := Lib.hid hnum; clear hnum hrow hon
      go_wp2_with fail
      go_roundg (t.length - (j + 1))
      case measure => omega
      case rel => exact ⟨j + 1, by omega, rfl, by go_num, by rw [HNU.out], own2, hon2⟩
    · have hz : ¬ (j : Int) < (t.length : Int) := by omega
      have hjl : j = t.length := by omega
      have HJ := Lib.hid hjl; clear hjl
      go_wp2_with fail
      go_ret
      have := HJ.out
      subst this
      exact ⟨by simp, by simpa using own, honly⟩
set_option maxHeartbeats 1000000 in
theorem heldIntS_any (a : Option Addr) (c n : Nat) (k : Int) (w : World) (hr : IRow w a (markRowI k n)) (hk0 : 0 ≤ k) (hk1 : k ≤ 100000000) (hl : n ≤ 2000000) :
    Calls Try.prog 52 #[.slice a n c, .int .i64 k] w fun e w' => e = .returned (.int .i64 (k + n)) ∧ w = w' := by
  have HR := Lib.hid hr; clear hr
  go_enter Try.func52, Try.ntmps52
  go_wp2_with fail
  go_loop [1, 5] (fun v i => ∃ j : Nat, j ≤ n ∧ i = .int .i64 j ∧ v = .int .i64 (k + j)) (fun _ i => n - (intOf i).toNat)
  case atStart => exact ⟨0, Nat.zero_le _, rfl, by simp⟩
  case round =>
    obtain ⟨j, hj, rfl, rfl⟩ := hrel
    by_cases hlt : j < n
    · have hz : (j : Int) < (n : Int) := by omega
      obtain ⟨b, off, rfl, hc⟩ := HR.out j (by rw [markRowI_length]; exact hlt)
      simp only [markRowI, List.getElem_map, List.getElem_range, encI, mkI] at hc
      have hne : ((k + (j : Int)) != (k + (j : Int))) = false := by simp
      go_wp2_with fail
      go_round
      case rel => exact ⟨j + 1, by omega, by go_num, by go_num⟩
      case measure => simp [intOf]; omega
    · have hz : ¬ (j : Int) < (n : Int) := by omega
      have hjl : j = n := by omega
      have HJ := Lib.hid hjl; clear hjl
      go_wp2_with fail
      go_ret
      have := HJ.out
      subst this
      exact ⟨rfl, rfl⟩
set_option maxHeartbeats 1000000 in
theorem heldIntSS_any (a : Option Addr) (c : Nat) (t : List (List Int)) (k : Int) (w : World) (hr : IRows w a (markTI k t)) (hk0 : 0 ≤ k) (hk1 : k ≤ 10000000) (hl : t.length ≤ 2000000) (hs : sizeI t ≤ 2000000) :
    Calls Try.prog 21 #[.slice a t.length c, .int .i64 k] w fun e w' => e = .returned (.int .i64 (k + sizeI t)) ∧ w = w' := by
  have hle : ∀ i (h : i < t.length), sizeI (t.take i) + t[i].length ≤ sizeI t := fun i h => by
    rw [← sizeI_take t i h]
    have : sizeI t = sizeI (t.take (i + 1)) + sizeI (t.drop (i + 1)) := by
      unfold sizeI; rw [← List.sum_append, ← List.map_append, List.take_append_drop]
    omega
  have HLE := Lib.hid hle; clear hle
  have HR := Lib.hid hr; clear hr
  go_enter Try.func21, Try.ntmps21
  go_wp2_with fail
  go_loop [1, 5] (fun v i => ∃ j : Nat, j ≤ t.length ∧ i = .int .i64 j ∧ v = .int .i64 (k + sizeI (t.take j))) (fun _ i => t.length - (intOf i).toNat)
  case atStart => exact ⟨0, Nat.zero_le _, rfl, by simp [sizeI]⟩
  case round =>
    obtain ⟨j, hj, rfl, rfl⟩ := hrel
    by_cases hlt : j < t.length
    · have hz : (j : Int) < (t.length : Int) := by omega
      have hlen : j < (markTI k t).length := by rw [markTI_length]; exact hlt
      obtain ⟨b, off, ak, ck, rfl, hck, _, _, hrk⟩ := HR.out j hlen
      rw [markTI_at k t j hlen hlt] at hck hrk
      rw [markRowI_length] at hck
      have HRK := Lib.hid hrk; clear hrk
      have hsz := HLE.out j hlt
      go_wp2_with fail
      refine (heldIntS_any ak ck t[j].length _ _ HRK.out (by omega) (by omega) (by omega)).mono ?_
      rintro e w1 ⟨rfl, rfl⟩
      have hnn : ¬ k + (sizeI (t.take j) : Int) + (t[j].length : Int) < 0 := by omega
      have hnum : k + (sizeI (t.take j) : Int) + (t[j].length : Int) = k + (sizeI (t.take (j + 1)) : Int) := by rw [sizeI_take t j hlt]; omega
      have HNU := Lib.hid hnum; clear hnum
      go_wp2_with fail
      go_round
      case rel => exact ⟨j + 1, by omega, by go_num, by rw [HNU.out]⟩
      case measure => simp [intOf]; omega
    · have hz : ¬ (j : Int) < (t.length : Int) := by omega
      have hjl : j = t.length := by omega
      have HJ := Lib.hid hjl; clear hjl
      go_wp2_with fail
      go_ret
      have := HJ.out
      subst this
      exact ⟨by simp, rfl⟩
end Go.Proofs.Ytfompehpoanhaaa

/- Marks that the laws lay into tables and look for again. -/
namespace Go.Proofs.Ytfompehpoanhaaa
open Go.RowKit Go.DC
def mkB (z : Int) : Bool := z % 3 == 0
def markRowB (k : Int) (n : Nat) : List Bool := (List.range n).map fun (i : Nat) => mkB (k + i)
def markTB (k : Int) : List (List Bool) → List (List Bool)
  | [] => []
  | r :: t => markRowB k r.length :: markTB (k + r.length) t
theorem markRowB_length (k : Int) (n : Nat) : (markRowB k n).length = n := by simp [markRowB]
theorem markTB_length (k : Int) (t : List (List Bool)) : (markTB k t).length = t.length := by
  induction t generalizing k with
  | nil => rfl
  | cons r t ih => simp [markTB, ih]
theorem markTB_take (k : Int) (t : List (List Bool)) : ∀ i (h : i < t.length), markTB k (t.take (i + 1)) = markTB k (t.take i) ++ [markRowB (k + sizeB (t.take i)) t[i].length] := by
  induction t generalizing k with
  | nil => intro i h; simp at h
  | cons r t ih =>
    intro i h
    cases i with
    | zero => simp [markTB, sizeB]
    | succ i =>
      have := ih (k + r.length) i (by simpa using h)
      simp only [List.take_succ_cons, markTB, List.cons_append, List.getElem_cons_succ] at this ⊢
      rw [this]
      simp only [sizeB, List.map_cons, List.sum_cons, List.cons.injEq, true_and]
      congr 2
      congr 1
      omega
theorem markTB_take_eq (k : Int) (t : List (List Bool)) (j : Nat) : markTB k (t.take j) = (markTB k t).take j := by
  induction t generalizing k j with
  | nil => simp [markTB]
  | cons r t ih =>
    cases j with
    | zero => simp [markTB]
    | succ j => simp [markTB, ih]
theorem mix_atB (k : Int) (t : List (List Bool)) (j l : Nat) (hj : j ≤ t.length) : (markTB k (t.take j) ++ t.drop j)[l]? = if l < j then (markTB k t)[l]? else t[l]? := by
  have hl : (markTB k (t.take j)).length = j := by rw [markTB_length, List.length_take]; omega
  by_cases h : l < j
  · rw [if_pos h, List.getElem?_append_left (by rw [hl]; exact h), markTB_take_eq, List.getElem?_take, if_pos h]
  · rw [if_neg h, List.getElem?_append_right (by rw [hl]; omega), hl, List.getElem?_drop]
    congr 1; omega
theorem markTB_at (k : Int) (t : List (List Bool)) (i : Nat) (h : i < (markTB k t).length) (h' : i < t.length) : (markTB k t)[i] = markRowB (k + sizeB (t.take i)) t[i].length := by
  induction t generalizing k i with
  | nil => simp at h'
  | cons r t ih =>
    cases i with
    | zero => simp [markTB, sizeB]
    | succ i =>
      have := ih (k + r.length) i (by simpa [markTB] using h) (by simpa using h')
      simp only [markTB, List.getElem_cons_succ, List.take_succ_cons, this]
      congr 1
      simp [sizeB]; omega
theorem set_markB {z : Bool} {k : Int} {n i : Nat} {zs : List Bool} (hz : z = mkB (k + i)) (hn : zs.length = n) (hi : i < n) :
    (markRowB k i ++ zs.drop i).set i z = markRowB k (i + 1) ++ zs.drop (i + 1) := by
  subst hn
  apply List.ext_getElem?
  intro j
  have h1 : (markRowB k i).length = i := markRowB_length k i
  have h2 : (markRowB k (i + 1)).length = i + 1 := markRowB_length k (i + 1)
  rw [List.getElem?_set]
  by_cases e : i = j
  · subst e
    rw [if_pos rfl, if_pos (by simp [h1]; omega), List.getElem?_append_left (by rw [h2]; omega), hz]
    simp [markRowB]
  · rw [if_neg e]
    by_cases h : j < i
    · rw [List.getElem?_append_left (by rw [h1]; exact h), List.getElem?_append_left (by rw [h2]; omega)]
      simp [markRowB, h, show j < i + 1 by omega]
    · rw [List.getElem?_append_right (by rw [h1]; omega), List.getElem?_append_right (by rw [h2]; omega), h1, h2, List.getElem?_drop, List.getElem?_drop]
      congr 1; omega
end Go.Proofs.Ytfompehpoanhaaa
