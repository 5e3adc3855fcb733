/- Persons: their fields, what counts as one, how a list of them lies in memory. Plain words and laws on them; no conditions. -/
import Derived.Test.YtkldaapcpnpdfaaRows
import Derived.Test.YtkldaapcpnpdfaaBase
namespace Go.Proofs.Ytkldaapcpnpdfaa
open Go.RowKit Go.DC
structure Per where
  area : Int
  job : Int
  sex : Int
  pay : Int
  deriving DecidableEq

def Per.val (p : Per) : Value := .agg #[.int .i64 p.area, .int .i64 p.job, .int .i64 p.sex, .int .i64 p.pay]

def isCodeB (a : Int) : Bool := decide (0 ≤ a) && decide (a < 4)
def isSexB (a : Int) : Bool := a == 0 || a == 1
def Per.ok (p : Per) : Bool := isCodeB p.area && isCodeB p.job && isSexB p.sex && decide (0 ≤ p.pay) && decide (p.pay ≤ 999)

/-- A slice of persons, as it lies in memory. -/
def Pers (w : World) (a : Option Addr) (ps : List Per) : Prop :=
  ∀ k (h : k < ps.length), ∃ b off, a = some ⟨b, off, none⟩ ∧ w.cell? ⟨b, off + k * 4, none⟩ = some (.int .i64 (ps[k]).area) ∧ w.cell? ⟨b, off + k * 4 + 1, none⟩ = some (.int .i64 (ps[k]).job)
    ∧ w.cell? ⟨b, off + k * 4 + 2, none⟩ = some (.int .i64 (ps[k]).sex) ∧ w.cell? ⟨b, off + k * 4 + 3, none⟩ = some (.int .i64 (ps[k]).pay)

theorem Pers.ext {w w' : World} {a : Option Addr} {ps : List Per} (h : Pers w a ps) (e : Ext w w') : Pers w' a ps := fun k hk => by
  obtain ⟨b, off, ha, h0, h1, h2, h3⟩ := h k hk
  exact ⟨b, off, ha, e.cell h0, e.cell h1, e.cell h2, e.cell h3⟩

set_option maxHeartbeats 400000 in
theorem isCode_any (a : Int) (w : World) :
    Calls Try.prog 47 #[.int .i64 a] w fun e w' => e = .returned (.bool (isCodeB a)) ∧ w = w' := by
  by_cases h : 0 ≤ a
  · go_enter Try.func47, Try.ntmps47
    go_wp2
    go_ret
    simp [h, isCodeB]
  · have h' : decide (0 ≤ a) = false := by simpa using h
    have hh : isCodeB a = false := by simp [isCodeB, h]
    have H := Lib.hid hh; clear hh
    go_enter Try.func47, Try.ntmps47
    go_wp2
    go_ret
    rw [H.out]; simp

set_option maxHeartbeats 400000 in
theorem isSex_any (a : Int) (w : World) :
    Calls Try.prog 48 #[.int .i64 a] w fun e w' => e = .returned (.bool (isSexB a)) ∧ w = w' := by
  by_cases h : a = 0
  · subst h
    go_enter Try.func48, Try.ntmps48
    go_wp2
    go_ret
    simp [isSexB]
  · have h' : (a == 0) = false := by simpa using h
    go_enter Try.func48, Try.ntmps48
    go_wp2
    go_ret
    simp [isSexB, h]

set_option maxHeartbeats 400000 in
theorem PersonValid_any (p : Per) (w : World) :
    Calls Try.prog 32 #[p.val] w (Ret (.bool p.ok) w) := by
  obtain ⟨a, j, s, p⟩ := p
  have hv : (Per.mk a j s p).val = .agg #[.int .i64 a, .int .i64 j, .int .i64 s, .int .i64 p] := rfl
  rw [hv]; clear hv
  have key : Hid (∀ c, c = (isCodeB a && isCodeB j && isSexB s && decide (0 ≤ p) && decide (p ≤ 999)) → Ending.returned (.bool c) = .returned (.bool (Per.ok ⟨a, j, s, p⟩))) := fun c hc => by rw [hc]; rfl
  go_enter Try.func32, Try.ntmps32
  go_wp2_with (first | (go_at_call 47; refine (isCode_any _ _).mono ?_; rintro e w' ⟨rfl, rfl⟩) | (go_at_call 48; refine (isSex_any _ _).mono ?_; rintro e w' ⟨rfl, rfl⟩))
  all_goals
    go_ret
    refine ⟨key.out _ ?_, (Ext.refl _).alloc _⟩
    first | (simp_all; done) | (simp_all; omega)

theorem all_snoc {α : Type} {p : α → Bool} {l : List α} {k : Nat} (h : k < l.length) (ha : (l.take k).all p = true) (hk : p l[k] = true) : (l.take (k + 1)).all p = true := by
  rw [List.take_succ_eq_append_getElem h, List.all_append, ha]; simp [hk]
theorem all_no {α : Type} {p : α → Bool} {l : List α} {k : Nat} (h : k < l.length) (hk : p l[k] = false) : l.all p = false := by
  rw [List.all_eq_false]; exact ⟨l[k], List.getElem_mem h, by simp [hk]⟩

def okPers (ps : List Per) : Bool := ps.all Per.ok && decide (ps.length ≤ 40)

set_option maxHeartbeats 400000 in
theorem PeopleValid_any (a : Option Addr) (c : Nat) (ps : List Per) (w : World) (hp : Pers w a ps) (hm : ps.length ≤ 9223372036854775807) :
    Calls Try.prog 12 #[.slice a ps.length c] w (Ret (.bool (okPers ps)) w) := by
  have HP := Lib.hid hp; clear hp
  go_enter Try.func12, Try.ntmps12
  go_wp2
  go_loopw [7] (fun i wr => ∃ k : Nat, k ≤ ps.length ∧ i = .int .i64 k ∧ Hid ((ps.take k).all Per.ok = true) ∧ Ext w wr) (fun i _ => ps.length - (intOf i).toNat)
  case atStart => exact ⟨0, Nat.zero_le _, rfl, by simp [Hid], Ext.refl _⟩
  case round =>
    obtain ⟨k, hk, rfl, hall, hext⟩ := hrel
    by_cases hlt : k < ps.length
    · obtain ⟨b, off, rfl, h0, h1, h2, h3⟩ := HP.out k hlt
      have g0 := hext.cell h0
      have g1 := hext.cell h1
      have g2 := hext.cell h2
      have g3 := hext.cell h3
      clear h0 h1 h2 h3
      go_wp2_with (go_at_call 32; refine (PersonValid_any (ps[k]) _).mono ?_; rintro e w' ⟨rfl, hb⟩)
      · have hno : (ps[k]).ok = false := not_t ‹_›
        go_ret
        exact ⟨ret_bool (by unfold okPers; rw [all_no hlt hno]; rfl), (hext.alloc _).trans hb⟩
      · have hyes : (ps[k]).ok = true := not_f ‹_›
        go_roundw
        case rel => exact ⟨k + 1, hlt, by go_num, all_snoc hlt hall.out hyes, (hext.alloc _).trans hb⟩
        case measure => simp [intOf]; omega
    · go_wp2
      go_ret
      exact ⟨ret_bool (by unfold okPers; rw [List.take_of_length_le (by omega)] at hall; rw [show ps.all Per.ok = true from hall]; simp; omega), hext⟩
end Go.Proofs.Ytkldaapcpnpdfaa
