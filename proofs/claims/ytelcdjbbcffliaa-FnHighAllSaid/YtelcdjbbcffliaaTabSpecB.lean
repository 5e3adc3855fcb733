/- Copies that the reference and the laws make; sizes; marks. -/
import Derived.Test.YtelcdjbbcffliaaTabEqB
namespace Go.Proofs.Ytelcdjbbcffliaa
open Go.RowKit Go.DC
theorem set_take1B {α : Type} {zs : List α} {k : Nat} {z : α} (h : k < zs.length) : (zs.take k ++ List.replicate (zs.length - k) z).set k zs[k] = zs.take (k + 1) ++ List.replicate (zs.length - (k + 1)) z := by
  apply List.ext_getElem
  · simp; omega
  · intro i h1 h2
    simp only [List.getElem_set, List.getElem_append, List.getElem_replicate, List.length_take, List.getElem_take]
    repeat' split
    all_goals first | rfl | omega | (rename_i h3 _; subst h3; rfl) | (rename_i h3; subst h3; rfl)
set_option maxHeartbeats 1000000 in
theorem toBoolS_any (a : Option Addr) (c : Nat) (zs : List Bool) (w : World) (hr : BRow w a zs) (hl : zs.length ≤ 2000000) :
    Calls Try.prog 61 #[.slice a zs.length c] w (NewRow encB 4 zs w) := by
  have HR := Lib.hid hr; clear hr
  have hmk := run_make_row' (P := Try.prog) 53 4 (.bool false) 1 Try.underlying53 Try.dcElemB rfl .i64 .i64 zs.length (by omega) (by omega)
  go_enter Try.func61, Try.ntmps61
  go_wp2_with fail
  clear hmk
  go_loopg [4] zs.length (fun g i wr => ∃ k : Nat, k ≤ zs.length ∧ g = zs.length - k ∧ i = .int .i64 k ∧ wr.ownsRow w.heap.size 4 1 (.slice (some ⟨w.heap.size, 0, none⟩) zs.length zs.length) zs.length ((zs.take k ++ List.replicate (zs.length - k) false).map encB) ∧ Ext w wr)
  case atStart =>
    refine ⟨0, Nat.zero_le _, rfl, rfl, ?_, (Ext.refl _).alloc _⟩
    have := World.ownsRow_lit (base := w.heap.size) (e := 4) (size := 1) w (madeCells #[.bool false] zs.length) zs.length (Nat.le_refl _) (by unfold maxLen; omega) (by simp [size_madeCells])
    rw [toList_madeCells_one] at this
    simpa using this
  case round =>
    obtain ⟨k, hk, rfl, rfl, own, hext⟩ := hrel
    by_cases hlt : k < zs.length
    · have hz : (k : Int) < (zs.length : Int) := by omega
      obtain ⟨b, off, rfl, hc⟩ := (HR.out.ext hext) k hlt
      unfold encB at hc
      have hold := World.ownsRow.cellAt own k (by omega)
      rw [List.getElem?_eq_getElem (by simp; omega)] at hold
      have hfr := World.ownsRow.frozenAt own k
      have hst := (World.ownsRow.stored own k (encB zs[k])).1
      rw [← List.map_set, set_take1B hlt] at hst
      have HS := Lib.hid hst; clear hst own
      go_wp2_with fail
      go_roundg (zs.length - (k + 1))
      case measure => omega
      case rel => exact ⟨k + 1, by omega, rfl, by go_num, HS.out, hext.setCell (p := ⟨w.heap.size, k, none⟩) (Nat.le_refl _) _⟩
    · have hz : ¬ (k : Int) < (zs.length : Int) := by omega
      go_wp2_with fail
      go_ret
      have hkh : k = zs.length := by omega
      subst hkh
      exact ⟨_, rfl, by simpa using own, hext⟩
set_option maxHeartbeats 1000000 in
theorem toBoolSS_any (a : Option Addr) (c : Nat) (t : List (List Bool)) (w : World) (ht : BRows w a t) (hl : t.length ≤ 2000000) (hll : ∀ k (h : k < t.length), t[k].length ≤ 2000000) :
    Calls Try.prog 32 #[.slice a t.length c] w (NewTab encB 4 53 t w) := by
  have HT := Lib.hid ht; clear ht
  have HL := Lib.hid hll; clear hll
  have hmk := run_make_row' (P := Try.prog) 24 53 (.slice none 0 0) 24 Try.underlying24 Try.dcRowB rfl .i64 .i64 t.length (by omega) (by omega)
  go_enter Try.func32, Try.ntmps32
  go_wp2_with fail
  clear hmk
  go_loopg [4] t.length (fun g i wr => ∃ (k : Nat) (vs : List Value), k ≤ t.length ∧ g = t.length - k ∧ i = .int .i64 k ∧ OwnB wr w.heap.size (.slice (some ⟨w.heap.size, 0, none⟩) t.length t.length) vs (t.take k ++ List.replicate (t.length - k) []) ∧ Ext w wr)
  case atStart => exact ⟨0, _, Nat.zero_le _, rfl, rfl, by simpa using OwnT.made (enc := encB) (te := 4) (ts := 53) w t.length (Nat.le_refl _) (by omega), (Ext.refl _).alloc _⟩
  case round =>
    obtain ⟨k, vs, hk, rfl, rfl, own, hext⟩ := hrel
    by_cases hlt : k < t.length
    · have hz : (k : Int) < (t.length : Int) := by omega
      have hlen : k < (t.take k ++ List.replicate (t.length - k) []).length := by simp; omega
      have hsz := hext.size
      have hsl : w.heap.size < wr.heap.size := (own.outer_lt rfl).2
      obtain ⟨b, off, ak, ck, rfl, hck, hlk, hnk, hrk⟩ := (HT.out.ext hext) k hlt
      have HR := Lib.hid hrk; clear hrk hnk
      go_wp2_with fail
      refine (toBoolS_any ak ck t[k] _ HR.out (HL.out k hlt)).mono ?_
      rintro e w1 ⟨u, rfl, hu, e1⟩
      have own1 := own.ext e1
      obtain ⟨c1, hc1, _, hf1⟩ := own1.cellAt hlen
      have hub := hu.lt
      have hset := own1.setRow hlen (owns_base hu hsz) (fun b hb => by have := (hub b hb).1; omega)
        (fun l hl _ b hb => by
          have h1 := (hub b hb).1
          intro hh
          have := (own.inner_lt hl hh).2
          omega)
      rw [set_take hlt] at hset
      have HS := Lib.hid hset
      obtain ⟨au, cu, rfl, _⟩ := owns_cells hu
      clear hset own own1 hub hu
      go_wp2_with fail
      go_roundg (t.length - (k + 1))
      case measure => omega
      case rel => exact ⟨k + 1, _, by omega, rfl, by go_num, HS.out, (hext.trans e1).setCell (p := ⟨w.heap.size, k, none⟩) (Nat.le_refl _) _⟩
    · have hz : ¬ (k : Int) < (t.length : Int) := by omega
      go_wp2_with fail
      go_ret
      have hkh : k = t.length := by omega
      subst hkh
      exact ⟨_, vs, rfl, by simpa using own, hext⟩
set_option maxHeartbeats 400000 in
theorem szBoolS_any (a : Option Addr) (n c : Nat) (left : Int) (w : World) (h0 : 0 ≤ left) (h1 : left ≤ 1048576) (hn : n ≤ 9223372036854775807) :
    Calls Try.prog 59 #[.slice a n c, .int .i64 left] w fun e w' => e = .returned (.int .i64 (if left < n then -1 else left - n)) ∧ w = w' := by
  by_cases h : left < n
  · rw [if_pos h]
    have h' : left - (n : Int) < 0 := by omega
    go_enter Try.func59, Try.ntmps59
    go_wp2
    go_ret
    exact ⟨rfl, rfl⟩
  · rw [if_neg h]
    have h' : ¬ left - (n : Int) < 0 := by omega
    go_enter Try.func59, Try.ntmps59
    go_wp2
    go_ret
    exact ⟨rfl, rfl⟩
def sizeB (t : List (List Bool)) : Nat := (t.map List.length).sum
theorem sizeB_take (t : List (List Bool)) (i : Nat) (h : i < t.length) : sizeB (t.take (i + 1)) = sizeB (t.take i) + t[i].length := by
  unfold sizeB; rw [List.take_succ_eq_append_getElem h, List.map_append, List.sum_append]; simp
theorem sizeB_le (t : List (List Bool)) (i : Nat) (h : i < t.length) : t[i].length ≤ sizeB t := by
  have h1 := sizeB_take t i h
  have h2 : sizeB t = sizeB (t.take (i + 1)) + sizeB (t.drop (i + 1)) := by
    unfold sizeB; rw [← List.sum_append, ← List.map_append, List.take_append_drop]
  omega
/-- What the size's count says: if something is left, all lengths are small. -/
def SizeB (t : List (List Bool)) (left : Int) (w : World) (e : Ending) (w' : World) : Prop :=
  ∃ r : Int, e = .returned (.int .i64 r) ∧ w = w' ∧ r ≤ left ∧ (0 ≤ r → (t.length : Int) + sizeB t ≤ left)

set_option maxHeartbeats 1000000 in
theorem szBoolSS_any (a : Option Addr) (c : Nat) (t : List (List Bool)) (left : Int) (w : World) (ht : BRows w a t) (h0 : 0 ≤ left) (h1 : left ≤ 1048576) (hm : t.length ≤ 9223372036854775807) (hmm : ∀ k (h : k < t.length), t[k].length ≤ 9223372036854775807) :
    Calls Try.prog 30 #[.slice a t.length c, .int .i64 left] w (SizeB t left w) := by
  have HT := Lib.hid ht; clear ht
  have HM := Lib.hid hmm; clear hmm
  by_cases h : left < t.length
  · have h' : left - (t.length : Int) < 0 := by omega
    go_enter Try.func30, Try.ntmps30
    go_wp2_with fail
    go_ret
    exact ⟨-1, rfl, rfl, by omega, fun h => by omega⟩
  · have h' : ¬ left - (t.length : Int) < 0 := by omega
    go_enter Try.func30, Try.ntmps30
    go_wp2_with fail
    go_loop [1, 5] (fun l i => ∃ (k : Nat) (r : Int), k ≤ t.length ∧ i = .int .i64 k ∧ l = .int .i64 r ∧ 0 ≤ r ∧ r ≤ left ∧ Hid (r + t.length + sizeB (t.take k) = left)) (fun _ i => t.length - (intOf i).toNat)
    case atStart => exact ⟨0, left - t.length, Nat.zero_le _, rfl, rfl, by omega, by omega, by simp [Hid, sizeB]⟩
    case round =>
      obtain ⟨k, r, hk, rfl, rfl, hr0, hr1, HA⟩ := hrel
      by_cases hlt : k < t.length
      · have hz : (k : Int) < (t.length : Int) := by omega
        obtain ⟨b, off, ak, ck, rfl, hck, hlk, hnk, hrk⟩ := HT.out k hlt
        clear hrk hnk
        go_wp2_with fail
        refine (szBoolS_any _ _ _ r _ hr0 (by omega) (HM.out k hlt)).mono ?_
        rintro e w' ⟨rfl, rfl⟩
        by_cases hs : r < t[k].length
        · rw [if_pos hs]
          go_wp2_with fail
          go_ret
          exact ⟨-1, rfl, rfl, by omega, fun h => by omega⟩
        · rw [if_neg hs]
          have hs' : ¬ r - (t[k].length : Int) < 0 := by omega
          have hst := Lib.hid (sizeB_take t k hlt)
          go_wp2_with fail
          go_round
          case rel => exact ⟨k + 1, _, by omega, by go_num, rfl, by omega, by omega, by have h1 := HA.out; have h2 := hst.out; simp only [Hid]; omega⟩
          case measure => simp [intOf]; omega
      · have hz : ¬ (k : Int) < (t.length : Int) := by omega
        go_wp2_with fail
        go_ret
        exact ⟨r, rfl, rfl, hr1, fun _ => by have h1 := HA.out; rw [List.take_of_length_le (by omega)] at h1; omega⟩
end Go.Proofs.Ytelcdjbbcffliaa
