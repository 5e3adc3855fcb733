/- Whether two masks are equal, where they are. -/
import Derived.Test.YtnlolgooicgfdaaTabEqB
namespace Go.Proofs.Ytnlolgooicgfdaa
open Go.RowKit Go.DC
set_option maxRecDepth 10000 in
set_option maxHeartbeats 2000000 in
theorem sameMask_same (a b : Option Addr) (c d : Nat) (t : List (List Bool)) (w : World) (hx : BRows w a t) (hy : BRows w b t) (hm : t.length ≤ 9223372036854775807) (hr : ∀ k (h : k < t.length), t[k].length ≤ 9223372036854775807) :
    Calls Try.prog 13 #[.slice a t.length c, .slice b t.length d] w (Ret (.bool true) w) := by
  have HX := Lib.hid hx; clear hx
  have HY := Lib.hid hy; clear hy
  have HR := Lib.hid hr; clear hr
  have hlb : ((t.length : Int) != (t.length : Int)) = false := by simp
  go_enter Try.func13, Try.ntmps13
  go_wp2_with fail
  go_loopg [5] t.length (fun g i wr => ∃ k : Nat, k ≤ t.length ∧ g = t.length - k ∧ i = .int .i64 k ∧ Ext w wr)
  case atStart => exact ⟨0, Nat.zero_le _, rfl, rfl, Ext.refl _⟩
  case round =>
    obtain ⟨k, hk, rfl, rfl, hext⟩ := hrel
    by_cases hlt : k < t.length
    · have hz : (k : Int) < (t.length : Int) := by omega
      obtain ⟨g1, o1, ak, ck, rfl, c1, _, _, _⟩ := (HX.out.ext hext) k hlt
      obtain ⟨g2, o2, bk, dk, rfl, c2, _, _, _⟩ := (HY.out.ext hext) k hlt
      have hlk := HR.out k hlt
      obtain ⟨zs, hzs⟩ : ∃ zs, t[k] = zs := ⟨_, rfl⟩
      rw [hzs] at c1 c2 hlk
      have XC : Hid (∀ wx : World, Ext w wx → ∃ ak ck, wx.cell? ⟨g1, o1 + k, none⟩ = some (.slice ak zs.length ck) ∧ BRow wx ak zs) := fun wx ex => by
        obtain ⟨_, _, ak, ck, ea, c1, _, _, rk⟩ := (HX.out.ext ex) k hlt
        cases ea
        rw [hzs] at c1 rk
        exact ⟨ak, ck, c1, rk⟩
      have YC : Hid (∀ wx : World, Ext w wx → ∃ ak ck, wx.cell? ⟨g2, o2 + k, none⟩ = some (.slice ak zs.length ck) ∧ BRow wx ak zs) := fun wx ex => by
        obtain ⟨_, _, ak, ck, ea, c1, _, _, rk⟩ := (HY.out.ext ex) k hlt
        cases ea
        rw [hzs] at c1 rk
        exact ⟨ak, ck, c1, rk⟩
      have hlb2 : ((zs.length : Int) != (zs.length : Int)) = false := by simp
      clear hzs
      go_wp2_with fail
      go_quiet (fail)
      go_wp2_with fail
      go_loopg [6] zs.length (fun g i wr => ∃ l : Nat, l ≤ zs.length ∧ g = zs.length - l ∧ i = .int .i64 l ∧ Ext w wr)
      case atStart => exact ⟨0, Nat.zero_le _, rfl, rfl, hext.drewN _⟩
      case round =>
        clear hext c1 c2
        obtain ⟨l, hl, rfl, rfl, hext⟩ := hrel
        obtain ⟨ax, cx, c1, rx⟩ := XC.out wr hext
        by_cases hlt2 : l < zs.length
        · have hlz : (l : Int) < (zs.length : Int) := by omega
          obtain ⟨ay, cy, c2, ry⟩ := YC.out wr hext
          obtain ⟨g3, o3, rfl, c3⟩ := rx l hlt2
          obtain ⟨g4, o4, rfl, c4⟩ := ry l hlt2
          unfold encB at c3 c4
          have hb : (zs[l] != zs[l]) = false := by simp
          have hb2 : (zs[l] == zs[l]) = true := by simp
          clear rx ry
          go_wp2_with fail
          go_quiet (fail)
          go_wp2_with fail
          go_roundg (zs.length - (l + 1))
          case measure => omega
          case rel => exact ⟨l + 1, by omega, rfl, by go_num, hext.drewN _⟩
        · have hlz : ¬ (l : Int) < (zs.length : Int) := by omega
          clear rx
          go_wp2_with fail
          go_roundg (t.length - (k + 1))
          case measure => omega
          case rel => exact ⟨k + 1, by omega, rfl, by go_num, hext⟩
    · have hz : ¬ (k : Int) < (t.length : Int) := by omega
      go_wp2_with fail
      go_ret
      exact ⟨rfl, hext⟩
end Go.Proofs.Ytnlolgooicgfdaa
