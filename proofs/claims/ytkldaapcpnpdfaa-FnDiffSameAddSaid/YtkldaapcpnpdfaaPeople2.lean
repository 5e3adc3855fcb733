/- The reference's checks of persons, and its count of common persons. No conditions beyond lengths that fit an int. -/
import Derived.Test.YtkldaapcpnpdfaaPeople
namespace Go.Proofs.Ytkldaapcpnpdfaa
open Go.RowKit Go.DC
def inB (n lo hi : Int) : Bool := decide (lo ≤ n) && decide (n ≤ hi)

set_option maxHeartbeats 400000 in
theorem l6In_any (n lo hi : Int) (w : World) :
    Calls Try.prog 49 #[.int .i64 n, .int .i64 lo, .int .i64 hi] w fun e w' => e = .returned (.bool (inB n lo hi)) ∧ w = w' := by
  by_cases h : lo ≤ n
  · have hh : inB n lo hi = decide (n ≤ hi) := by simp [inB, h]
    have H := Lib.hid hh; clear hh
    go_enter Try.func49, Try.ntmps49
    go_wp2
    go_ret
    rw [H.out]; simp
  · have h' : decide (lo ≤ n) = false := by simpa using h
    have hh : inB n lo hi = false := by simp [inB, h]
    have H := Lib.hid hh; clear hh
    go_enter Try.func49, Try.ntmps49
    go_wp2
    go_ret
    rw [H.out]; simp

theorem inB_code (a : Int) : inB a 0 3 = isCodeB a := by
  unfold inB isCodeB; congr 1; rw [Bool.eq_iff_iff]; simp; omega
theorem inB_sex (a : Int) : inB a 0 1 = isSexB a := by
  unfold inB isSexB; rw [Bool.eq_iff_iff]; simp; omega

set_option maxHeartbeats 400000 in
theorem sPersonValid_any (p : Per) (w : World) :
    Calls Try.prog 33 #[p.val] w (Ret (.bool p.ok) w) := by
  obtain ⟨a, j, s, p⟩ := p
  have hv : (Per.mk a j s p).val = .agg #[.int .i64 a, .int .i64 j, .int .i64 s, .int .i64 p] := rfl
  rw [hv]; clear hv
  have key : Hid (∀ c, c = (inB a 0 3 && inB j 0 3 && inB s 0 1 && inB p 0 999) → Ending.returned (.bool c) = .returned (.bool (Per.ok ⟨a, j, s, p⟩))) := fun c hc => by
    rw [hc, inB_code, inB_code, inB_sex]; simp only [Per.ok, inB, Bool.and_assoc]
  go_enter Try.func33, Try.ntmps33
  go_wp2_with (go_at_call 49; refine (l6In_any _ _ _ _).mono ?_; rintro e w' ⟨rfl, rfl⟩)
  all_goals
    go_ret
    refine ⟨key.out _ ?_, (Ext.refl _).alloc _⟩
    first | (simp_all; done) | (simp_all; omega)

set_option maxHeartbeats 400000 in
theorem sPeopleValid_any (a : Option Addr) (c : Nat) (ps : List Per) (w : World) (hp : Pers w a ps) (hm : ps.length ≤ 9223372036854775807) :
    Calls Try.prog 13 #[.slice a ps.length c] w (Ret (.bool (okPers ps)) w) := by
  have HP := Lib.hid hp; clear hp
  go_enter Try.func13, Try.ntmps13
  go_wp2
  go_loopw [3] (fun i wr => ∃ k : Nat, k ≤ ps.length ∧ i = .int .i64 k ∧ Hid ((ps.take k).all Per.ok = true) ∧ Ext w wr) (fun i _ => ps.length - (intOf i).toNat)
  case atStart => exact ⟨0, Nat.zero_le _, rfl, by simp [Hid], Ext.refl _⟩
  case round =>
    obtain ⟨k, hk, rfl, hall, hext⟩ := hrel
    by_cases hlt : k < ps.length
    · obtain ⟨b, off, rfl, h0, h1, h2, h3⟩ := HP.out k hlt
      have g0 := hext.cell h0
      have g1 := hext.cell h1
      have g2 := hext.cell h2
      have g3 := hext.cell h3
      clear h0 h1 h2 h3
      go_wp2_with (go_at_call 33; refine (sPersonValid_any (ps[k]) _).mono ?_; rintro e w' ⟨rfl, hb⟩)
      · have hno : (ps[k]).ok = false := not_t ‹_›
        go_ret
        exact ⟨ret_bool (by unfold okPers; rw [all_no hlt hno]; rfl), hext.trans hb⟩
      · have hyes : (ps[k]).ok = true := not_f ‹_›
        go_roundw
        case rel => exact ⟨k + 1, hlt, by go_num, all_snoc hlt hall.out hyes, hext.trans hb⟩
        case measure => simp [intOf]; omega
    · go_wp2
      go_ret
      exact ⟨ret_bool (by unfold okPers; rw [List.take_of_length_le (by omega)] at hall; rw [show ps.all Per.ok = true from hall]; simp; omega), hext⟩

/-- How many of the first persons are among the second ones, each of these taken once. -/
def common : List Per → List Per → Nat
  | [], _ => 0
  | p :: a, b => if p ∈ b then common a (b.erase p) + 1 else common a b

theorem common_le (a b : List Per) : common a b ≤ a.length := by
  induction a generalizing b with
  | nil => simp [common]
  | cons p a ih => unfold common; split <;> simp <;> (first | (have := ih (b.erase p); omega) | (have := ih b; omega))

/-- The persons that are not yet used. -/
def unused (U : Nat → Bool) : Nat → List Per → List Per
  | _, [] => []
  | k, p :: b => if U k then unused U (k + 1) b else p :: unused U (k + 1) b

def setU (U : Nat → Bool) (m : Nat) : Nat → Bool := fun j => if j = m then true else U j

theorem unused_congr {U V : Nat → Bool} : ∀ (b : List Per) (k : Nat), (∀ j, k ≤ j → U j = V j) → unused U k b = unused V k b
  | [], _, _ => rfl
  | p :: b, k, h => by
    unfold unused
    rw [h k (Nat.le_refl _), unused_congr b (k + 1) (fun j hj => h j (by omega))]

theorem unused_hit {U : Nat → Bool} {p : Per} : ∀ (b : List Per) (k m : Nat), (∀ j, j < m → ¬ (U (k + j) = false ∧ b[j]? = some p)) → U (k + m) = false → b[m]? = some p →
    unused (setU U (k + m)) k b = (unused U k b).erase p ∧ p ∈ unused U k b
  | [], _, _, _, _, h => by simp at h
  | q :: b, k, 0, _, hu, h => by
    simp at h; subst h
    simp only [Nat.add_zero] at hu ⊢
    unfold unused
    rw [if_pos (by simp [setU] : setU U k k = true), if_neg (by rw [hu]; decide : ¬ U k = true)]
    refine ⟨?_, by simp⟩
    rw [List.erase_cons_head]
    exact unused_congr b (k + 1) (fun j hj => by unfold setU; rw [if_neg (by omega)])
  | q :: b, k, m + 1, hn, hu, h => by
    have ih := unused_hit b (k + 1) m (fun j hj hh => hn (j + 1) (by omega) ⟨by rw [← hh.1]; congr 1; omega, by simpa using hh.2⟩) (by rw [← hu]; congr 1; omega) (by simpa using h)
    have e : k + 1 + m = k + (m + 1) := by omega
    rw [e] at ih
    have h0 := hn 0 (by omega)
    simp at h0
    have hk : setU U (k + (m + 1)) k = U k := by unfold setU; rw [if_neg (by omega)]
    unfold unused
    rw [hk]
    by_cases hU : U k = true
    · rw [if_pos hU, if_pos hU]; exact ih
    · have hU' : U k = false := by simpa using hU
      rw [if_neg hU, if_neg hU]
      have hne : q ≠ p := h0 hU'
      rw [List.erase_cons_tail (by simpa using hne), ih.1]
      exact ⟨rfl, List.mem_cons_of_mem _ ih.2⟩

theorem unused_miss {U : Nat → Bool} {p : Per} : ∀ (b : List Per) (k : Nat), (∀ j, j < b.length → ¬ (U (k + j) = false ∧ b[j]? = some p)) → p ∉ unused U k b
  | [], _, _ => by simp [unused]
  | q :: b, k, hn => by
    have ih := unused_miss b (k + 1) (fun j hj hh => hn (j + 1) (by simp; omega) ⟨by rw [← hh.1]; congr 1; omega, by simpa using hh.2⟩)
    have h0 := hn 0 (by simp)
    simp at h0
    unfold unused
    split
    · exact ih
    · rename_i hU
      have hU' : U k = false := by simpa using hU
      simp only [List.mem_cons, not_or]
      exact ⟨fun e => h0 hU' e.symm, ih⟩

theorem unused_all (b : List Per) : ∀ k, unused (fun _ => false) k b = b := by
  induction b with
  | nil => intro k; rfl
  | cons p b ih => intro k; unfold unused; rw [if_neg (by decide), ih]

theorem common_step_hit {ps r : List Per} {k : Nat} (h : k < ps.length) (hm : ps[k] ∈ r) : common (ps.drop k) r = common (ps.drop (k + 1)) (r.erase ps[k]) + 1 := by
  rw [List.drop_eq_getElem_cons h]; simp only [common]; rw [if_pos hm]
theorem common_step_miss {ps r : List Per} {k : Nat} (h : k < ps.length) (hm : ps[k] ∉ r) : common (ps.drop k) r = common (ps.drop (k + 1)) r := by
  rw [List.drop_eq_getElem_cons h]; simp only [common]; rw [if_neg hm]

theorem Try.dcInfoBool : (Try.prog.info? 4).map (fun i => (i.zero, i.size, i.bytes)) = some (some (.bool false), 1, 1) := by kernel_rfl

theorem per_eq (p q : Per) : (p.area == q.area && (p.job == q.job && (p.sex == q.sex && p.pay == q.pay))) = decide (p = q) := by
  obtain ⟨a, b, c, d⟩ := p; obtain ⟨a', b', c', d'⟩ := q
  rw [Bool.eq_iff_iff]; simp

theorem run_eql_per (p q : Per) (w : World) : (binOp .eql 36 (.agg #[.int .i64 p.area, .int .i64 p.job, .int .i64 p.sex, .int .i64 p.pay]) (.agg #[.int .i64 q.area, .int .i64 q.job, .int .i64 q.sex, .int .i64 q.pay])).run Try.prog w = .ok (.bool (decide (p = q))) w := by
  have h1 : Try.prog.underlying 36 = some (.struct (Try.prog.fieldsOf 36)) := by kernel_rfl
  have h2 : Try.prog.stoodInHeld 36 = false := by kernel_rfl
  rw [run_eql_struct, run_equalIn_agg w 9999 36 _ _ h1 h2, ← per_eq]
  simp [go_sem]
  repeat' split
  all_goals simp_all
theorem Try.dcEqGuard : Try.prog.eqGuardType Try.prog.depth 36 = false := by kernel_rfl

set_option maxHeartbeats 1000000 in
theorem l15Same_any (a1 a2 : Option Addr) (c1 c2 : Nat) (ps qs : List Per) (w : World) (hp : Pers w a1 ps) (hq : Pers w a2 qs) (hm1 : ps.length ≤ 40) (hm2 : qs.length ≤ 40) :
    Calls Try.prog 34 #[.slice a1 ps.length c1, .slice a2 qs.length c2] w (Ret (.int .i64 (common ps qs)) w) := by
  have HP := Lib.hid hp; clear hp
  have HQ := Lib.hid hq; clear hq
  have hmk := run_make_row' (P := Try.prog) 69 4 (.bool false) 1 Try.underlying69 Try.dcInfoBool rfl .i64 .i64 qs.length (by omega) (by omega)
  go_enter Try.func34, Try.ntmps34
  go_wp2
  clear hmk
  go_loopg [6, 7] ps.length (fun g n i wr => ∃ (k m : Nat) (U : Nat → Bool), k ≤ ps.length ∧ g = ps.length - k ∧ i = .int .i64 k ∧ n = .int .i64 m ∧ m ≤ k ∧ m + common (ps.drop k) (unused U 0 qs) = common ps qs
    ∧ wr.rowIs w.heap.size 4 qs.length (fun j => .bool (U j)) ∧ Ext w wr)
  case atStart => exact ⟨0, 0, fun _ => false, Nat.zero_le _, rfl, rfl, rfl, Nat.le_refl _, by rw [unused_all]; simp, World.rowIs_made w _ _ _, (Ext.refl _).alloc _⟩
  case round =>
    obtain ⟨k, m, U, hk, rfl, rfl, rfl, hmk, hc, hrow, hext⟩ := hrel
    have HC := Lib.hid hc; clear hc
    by_cases hlt : k < ps.length
    · obtain ⟨b, off, rfl, h0, h1, h2, h3⟩ := HP.out k hlt
      have hltz : (k : Int) < (ps.length : Int) := by omega
      go_wp2
      go_loopg [6, 8] qs.length (fun g n i wi => ∃ (j : Nat), j ≤ qs.length ∧ g = qs.length - j ∧ i = .int .i64 j ∧ n = .int .i64 m ∧ (∀ x, x < j → ¬ (U x = false ∧ qs[x]? = some ps[k]))
        ∧ wi.rowIs w.heap.size 4 qs.length (fun j => .bool (U j)) ∧ Ext w wi)
      case atStart => exact ⟨0, Nat.zero_le _, rfl, rfl, rfl, fun x hx => absurd hx (by omega), hrow, hext⟩
      case round =>
        clear hrow hext
        obtain ⟨j, hj, rfl, rfl, rfl, hnone, hrow, hext⟩ := hrel
        have HN := Lib.hid hnone; clear hnone
        by_cases hjt : j < qs.length
        · have hjz : (j : Int) < (qs.length : Int) := by omega
          obtain ⟨b', off', rfl, q0, q1, q2, q3⟩ := HQ.out j hjt
          have g0 := hext.cell h0
          have g1 := hext.cell h1
          have g2 := hext.cell h2
          have g3 := hext.cell h3
          have p0 := hext.cell q0
          have p1 := hext.cell q1
          have p2 := hext.cell q2
          have p3 := hext.cell q3
          have hu := hrow.cell hjt
          have huf := hrow.frozen j
          clear h0 h1 h2 h3 q0 q1 q2 q3
          by_cases hU : U j = true
          · rw [hU] at hu
            go_wp2
            go_quiet (fail)
            go_wp2
            go_roundg (qs.length - (j + 1))
            case measure => omega
            case rel => exact ⟨j + 1, by omega, rfl, by go_num, rfl, fun x hx => by
              by_cases e : x = j
              · subst e; simp [hU]
              · exact HN.out x (by omega), hrow, hext.drewN _⟩
          · have hU' : U j = false := by simpa using hU
            rw [hU'] at hu
            go_wp2
            have heq := run_eql_per ps[k] qs[j]
            have hgu := Try.dcEqGuard
            go_quiet (fail)
            clear heq hgu
            go_wp2
            · have he : ps[k] = qs[j] := by assumption
              have hh := unused_hit (U := U) (p := ps[k]) qs 0 j (fun x hx => by rw [Nat.zero_add]; exact HN.out x hx) (by rw [Nat.zero_add]; exact hU') (by rw [List.getElem?_eq_getElem hjt, he])
              rw [Nat.zero_add] at hh
              have hst := common_step_hit (r := unused U 0 qs) hlt hh.2
              go_roundg (ps.length - (k + 1))
              case measure => omega
              case rel =>
                refine ⟨k + 1, m + 1, setU U j, by omega, rfl, by go_num, by go_num, by omega, ?_, ?_, ?_⟩
                · rw [hh.1]; have := HC.out; omega
                · exact ((hrow.set j (.bool true)).congr (fun i _ => by unfold setU; split <;> rfl))
                · exact (hext.setCell (Nat.le_refl _) _).drewN _
            · have he : ¬ ps[k] = qs[j] := by assumption
              go_roundg (qs.length - (j + 1))
              case measure => omega
              case rel => exact ⟨j + 1, by omega, rfl, by go_num, rfl, fun x hx => by
                by_cases e : x = j
                · subst e; rw [List.getElem?_eq_getElem hjt]; simp only [Option.some.injEq, not_and]; intro _ h; exact he h.symm
                · exact HN.out x (by omega), hrow, hext.drewN _⟩
        · have hjz : ¬ (j : Int) < (qs.length : Int) := by omega
          have hh := unused_miss (U := U) (p := ps[k]) qs 0 (fun x hx => by rw [Nat.zero_add]; exact HN.out x (by omega))
          have hst := common_step_miss (r := unused U 0 qs) hlt hh
          have HS := Lib.hid hst; clear hst hh
          go_wp2
          go_roundg (ps.length - (k + 1))
          case measure => omega
          case rel =>
            refine ⟨k + 1, m, U, by omega, rfl, by go_num, rfl, by omega, ?_, hrow, hext⟩
            have := HC.out; have := HS.out; omega
    · have hnlt : ¬ (k : Int) < (ps.length : Int) := by omega
      go_wp2
      go_ret
      refine ⟨ret_int ?_, hext⟩
      have := HC.out
      rw [List.drop_eq_nil_of_le (by omega)] at this
      simp [common] at this
      omega

end Go.Proofs.Ytkldaapcpnpdfaa
