/- The table of people. -/
import Derived.Test.YtkldaapcpnpdfaaPeople2
import Derived.Test.YtkldaapcpnpdfaaTabDraw
import Derived.Test.YtkldaapcpnpdfaaCells
namespace Go.Proofs.Ytkldaapcpnpdfaa
open Go.RowKit Go.DC
def here (a j : Nat) (p : Per) : Bool := decide (p.area = a) && decide (p.job = j)
def cntP (ps : List Per) (a j : Nat) : Int := ((ps.filter (here a j)).length : Int)
def ofPers (ps : List Per) : List (List Int) := tabOf 4 4 (cntP ps)
def ofP (ps : List Per) : List (List Int) := if okPers ps then ofPers ps else []
def OfOut (ps : List Per) (w : World) (e : Ending) (w' : World) : Prop :=
  ∃ v vs, e = .returned (.tuple #[v, .bool (okPers ps)]) ∧ OwnI w' w.heap.size v vs (ofP ps) ∧ Ext w w'
theorem cntP_take {ps : List Per} {k A J : Nat} (h : k < ps.length) (hA : ps[k].area = A) (hJ : ps[k].job = J) : cntP (ps.take (k + 1)) = upd (cntP (ps.take k)) A J (cntP (ps.take k) A J + 1) := by
  funext a j
  unfold cntP upd
  rw [List.take_succ_eq_append_getElem h, List.filter_append, List.length_append]
  by_cases e : a = A ∧ j = J
  · obtain ⟨rfl, rfl⟩ := e
    have : here a j ps[k] = true := by simp [here, hA, hJ]
    simp [List.filter, this]
  · have : here a j ps[k] = false := by
      unfold here
      rw [hA, hJ]
      rw [Bool.and_eq_false_iff, decide_eq_false_iff_not, decide_eq_false_iff_not]
      by_cases e1 : a = A
      · right; intro e2; exact e ⟨e1, by omega⟩
      · left; omega
    simp [List.filter, this, e]
theorem cntP_bd (ps : List Per) (a j : Nat) : 0 ≤ cntP ps a j ∧ cntP ps a j ≤ ps.length := by
  unfold cntP
  have := List.length_filter_le (here a j) ps
  omega
theorem ok_codes {p : Per} (h : p.ok = true) : ∃ A J : Nat, A < 4 ∧ J < 4 ∧ p.area = A ∧ p.job = J := by
  unfold Per.ok isCodeB at h
  simp only [Bool.and_eq_true, decide_eq_true_eq] at h
  exact ⟨p.area.toNat, p.job.toNat, by omega, by omega, by omega, by omega⟩
set_option maxHeartbeats 2000000 in
theorem sTableOf_any (a : Option Addr) (c : Nat) (ps : List Per) (w : World) (hp : Pers w a ps) (hm : ps.length ≤ 9223372036854775807) :
    Calls Try.prog 25 #[.slice a ps.length c] w (OfOut ps w) := by
  have HP := Lib.hid hp; clear hp
  go_enter Try.func25, Try.ntmps25
  go_wp2_with fail
  refine (sPeopleValid_any _ _ ps _ HP.out hm).mono ?_
  rintro e w1 ⟨rfl, e1⟩
  cases o1 : okPers ps
  · have hd : ofP ps = [] := by simp [ofP, o1]
    have HD := Lib.hid hd; have O1 := Lib.hid o1; clear hd o1
    go_wp2_with fail
    go_ret2
    exact ⟨_, [], by rw [O1.out]; rfl, by rw [HD.out]; exact ownT_empty w1 e1.size, e1.alloc _⟩
  have hl40 : ps.length ≤ 40 := by
    unfold okPers at o1
    simp only [Bool.and_eq_true, decide_eq_true_eq] at o1
    exact o1.2
  have hok : ∀ k (h : k < ps.length), ps[k].ok = true := fun k h => by
    unfold okPers at o1
    simp only [Bool.and_eq_true, List.all_eq_true] at o1
    exact o1.1 _ (List.getElem_mem h)
  have O1 := Lib.hid o1; have HOK := Lib.hid hok; clear o1 hok
  go_wp2_with fail
  refine (l11Blank_any 4 4 _ (by omega) (by omega)).mono ?_
  rintro e w2 ⟨v, vs, rfl, own, e2⟩
  rw [replicate_tab] at own
  obtain ⟨o, co, _, _, ev, _⟩ := own.atC (i := 0) (j := 0) (by omega) (by omega)
  subst ev
  have E2 := e1.trans e2
  have own2 : OwnI w2 w.heap.size (.slice (some ⟨o, 0, none⟩) 4 co) vs (tabOf 4 4 (cntP (ps.take 0))) := own.base e1.size
  clear own
  go_wp2_with fail
  go_loopg [5] ps.length (fun g i wr => ∃ k : Nat, k ≤ ps.length ∧ g = ps.length - k ∧ i = .int .i64 k ∧ OwnI wr w.heap.size (.slice (some ⟨o, 0, none⟩) 4 co) vs (tabOf 4 4 (cntP (ps.take k))) ∧ Ext w wr)
  case atStart => exact ⟨0, Nat.zero_le _, rfl, rfl, own2, E2⟩
  case round =>
    clear own2 E2
    obtain ⟨k, hk, rfl, rfl, own, hext⟩ := hrel
    by_cases hlt : k < ps.length
    · have hz : (k : Int) < (ps.length : Int) := by omega
      obtain ⟨b, off, rfl, g0, g1, _, _⟩ := HP.out.ext hext k hlt
      obtain ⟨A, J, hA4, hJ4, hA, hJ⟩ := ok_codes (HOK.out k hlt)
      have hct := cntP_take hlt hA hJ
      rw [hA] at g0
      rw [hJ] at g1
      obtain ⟨_, _, g, ck, ev, _, co1, hg, hgo, hvs, cg, fg, _⟩ := own.atC hA4 hJ4
      cases ev
      have hset := own.setC (j := J) hA4 hvs (cntP (ps.take k) A J + 1)
      rw [← hct] at hset
      have hbd := cntP_bd (ps.take k) A J
      have hl : ((ps.take k).length : Int) ≤ 40 := by simp; omega
      obtain ⟨z, hz2⟩ : ∃ z, cntP (ps.take k) A J = z := ⟨_, rfl⟩
      rw [hz2] at cg hset hbd
      obtain ⟨hb0, hb1⟩ := hbd
      have hww : IntKind.i64.wrap (z + 1) = z + 1 := IntWalk.i64_in _ (by omega)
      have hAz : (A : Int) < 4 := by omega
      have hJz : (J : Int) < 4 := by omega
      unfold encI at cg hset
      have HS := Lib.hid hset
      clear hset own hz2 hct hA hJ
      go_wp2_with fail
      go_still_tail 30, (by kernel_rfl)
      change wpList _ _ _ _ _ wr.drew
      go_wp2_with fail
      go_roundg (ps.length - (k + 1))
      case measure => omega
      case rel => exact ⟨k + 1, by omega, rfl, by go_num, HS.out.ext ((Ext.refl _).drew), (hext.setCell (p := ⟨g, J, none⟩) hg _).drew⟩
    · have hz : ¬ (k : Int) < (ps.length : Int) := by omega
      have htk : ps.take k = ps := List.take_of_length_le (by omega)
      rw [htk] at own
      have OW := Lib.hid own
      clear own htk
      go_wp2_with fail
      go_ret2
      exact ⟨_, vs, by rw [O1.out]; rfl, by unfold ofP ofPers; rw [O1.out]; exact OW.out, hext⟩
set_option maxHeartbeats 2000000 in
theorem TableOf_any (a : Option Addr) (c : Nat) (ps : List Per) (w : World) (hp : Pers w a ps) (hm : ps.length ≤ 9223372036854775807) :
    Calls Try.prog 24 #[.slice a ps.length c] w (OfOut ps w) := by
  have HP := Lib.hid hp; clear hp
  go_enter Try.func24, Try.ntmps24
  go_wp2_with fail
  refine (PeopleValid_any _ _ ps _ HP.out hm).mono ?_
  rintro e w1 ⟨rfl, e1⟩
  cases o1 : okPers ps
  · have hd : ofP ps = [] := by simp [ofP, o1]
    have HD := Lib.hid hd; have O1 := Lib.hid o1; clear hd o1
    go_wp2_with fail
    go_ret2
    exact ⟨_, [], by rw [O1.out]; rfl, by rw [HD.out]; exact own_nil _ _, e1⟩
  have hl40 : ps.length ≤ 40 := by
    unfold okPers at o1
    simp only [Bool.and_eq_true, decide_eq_true_eq] at o1
    exact o1.2
  have hok : ∀ k (h : k < ps.length), ps[k].ok = true := fun k h => by
    unfold okPers at o1
    simp only [Bool.and_eq_true, List.all_eq_true] at o1
    exact o1.1 _ (List.getElem_mem h)
  have O1 := Lib.hid o1; have HOK := Lib.hid hok; clear o1 hok
  go_wp2_with fail
  refine (emptyTable_any 4 4 _ (by omega) (by omega)).mono ?_
  rintro e w2 ⟨v, vs, rfl, own, e2⟩
  rw [replicate_tab] at own
  obtain ⟨o, co, _, _, ev, _⟩ := own.atC (i := 0) (j := 0) (by omega) (by omega)
  subst ev
  have E2 := e1.trans e2
  have own2 : OwnI w2 w.heap.size (.slice (some ⟨o, 0, none⟩) 4 co) vs (tabOf 4 4 (cntP (ps.take 0))) := own.base e1.size
  clear own
  go_wp2_with fail
  go_loopg [13] ps.length (fun g i wr => ∃ k : Nat, k ≤ ps.length ∧ g = ps.length - k ∧ i = .int .i64 k ∧ OwnI wr w.heap.size (.slice (some ⟨o, 0, none⟩) 4 co) vs (tabOf 4 4 (cntP (ps.take k))) ∧ Ext w wr)
  case atStart => exact ⟨0, Nat.zero_le _, rfl, rfl, own2, E2⟩
  case round =>
    clear own2 E2
    obtain ⟨k, hk, rfl, rfl, own, hext⟩ := hrel
    by_cases hlt : k < ps.length
    · have hz : (k : Int) < (ps.length : Int) := by omega
      obtain ⟨b, off, rfl, g0, g1, g2, g3⟩ := HP.out.ext hext k hlt
      obtain ⟨A, J, hA4, hJ4, hA, hJ⟩ := ok_codes (HOK.out k hlt)
      have hct := cntP_take hlt hA hJ
      rw [hA] at g0
      rw [hJ] at g1
      obtain ⟨_, _, g, ck, ev, _, co1, hg, hgo, hvs, cg, fg, _⟩ := own.atC hA4 hJ4
      cases ev
      have hbd := cntP_bd (ps.take k) A J
      have hl : ((ps.take k).length : Int) ≤ 40 := by simp; omega
      obtain ⟨z, hz2⟩ : ∃ z, cntP (ps.take k) A J = z := ⟨_, rfl⟩
      have hzc : cntP (ps.take k) A J + 1 = z + 1 := by rw [hz2]
      rw [hz2] at cg hbd
      obtain ⟨hb0, hb1⟩ := hbd
      have hww : IntKind.i64.wrap (z + 1) = z + 1 := IntWalk.i64_in _ (by omega)
      have hAz : (A : Int) < 4 := by omega
      have hJz : (J : Int) < 4 := by omega
      unfold encI at cg
      have hglt : g < wr.heap.size := World.block_lt_of_cell? _ _ cg
      obtain ⟨W, hW⟩ : ∃ W, wr.alloc (.cells #[.int .i64 A, .int .i64 J, .int .i64 ps[k].sex, .int .i64 ps[k].pay] 36) = W := ⟨_, rfl⟩
      have hx : Ext wr W := by rw [← hW]; exact (Ext.refl _).alloc _
      have q0 : W.cell? ⟨wr.heap.size, 0, none⟩ = some (.int .i64 A) := by rw [← hW]; simp [go_sem]
      have q1 : W.cell? ⟨wr.heap.size, 1, none⟩ = some (.int .i64 J) := by rw [← hW]; simp [go_sem]
      have co1' := hx.cell co1
      have cg' := hx.cell cg
      have fg' := (hx.frozen cg).trans fg
      have hset2 := (own.ext hx).setC (j := J) hA4 hvs (z + 1)
      rw [hzc] at hct
      rw [← hct] at hset2
      unfold encI at hset2
      have HS := Lib.hid hset2
      have HXT := Lib.hid (hext.trans hx)
      clear hset2 own hz2 hzc hct hA hJ hext
      go_wp2_with fail
      try rw [hW]
      clear hW
      go_still_tail 11, (by kernel_rfl)
      change wpList _ _ _ _ _ W.drew
      go_wp2_with fail
      go_roundg (ps.length - (k + 1))
      case measure => omega
      case rel => exact ⟨k + 1, by omega, rfl, by go_num, HS.out.ext ((Ext.refl _).drew), (HXT.out.setCell (p := ⟨g, J, none⟩) hg _).drew⟩
    · have hz : ¬ (k : Int) < (ps.length : Int) := by omega
      have htk : ps.take k = ps := List.take_of_length_le (by omega)
      rw [htk] at own
      have OW := Lib.hid own
      clear own htk
      go_wp2_with fail
      go_ret2
      exact ⟨_, vs, by rw [O1.out]; rfl, by unfold ofP ofPers; rw [O1.out]; exact OW.out, hext⟩
end Go.Proofs.Ytkldaapcpnpdfaa
