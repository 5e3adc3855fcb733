/- The program's checks of tables and its helpers on them. -/
import Derived.Test.YtelcdjbbcffliaaRows
import Derived.Test.YtelcdjbbcffliaaOwn
/- The program's checks of tables and its helpers on them. -/
namespace Go.Proofs.Ytelcdjbbcffliaa
open Go.RowKit Go.DC
abbrev encI (z : Int) : Value := .int .i64 z
abbrev encB (b : Bool) : Value := .bool b
abbrev IRow := @TRow Int encI
abbrev IRows := @TRows Int encI
abbrev BRow := @TRow Bool encB
abbrev BRows := @TRows Bool encB

def cellOk (n : Int) : Bool := decide (0 ≤ n) && decide (n ≤ 99)
def rowOk (m : Nat) (r : List Int) : Bool := r.length == m && r.all cellOk
def wide (t : List (List Int)) : Nat := (t.headD []).length
def tabOk (t : List (List Int)) : Bool := decide (1 ≤ t.length) && decide (t.length ≤ 4) && decide (1 ≤ wide t) && decide (wide t ≤ 4) && t.all (rowOk (wide t))

theorem wide_eq {t : List (List Int)} (h : 0 < t.length) : wide t = t[0].length := by
  cases t with
  | nil => simp at h
  | cons r t => rfl

theorem tabOk_short {t : List (List Int)} (h : ¬ (1 ≤ t.length ∧ t.length ≤ 4 ∧ 1 ≤ wide t ∧ wide t ≤ 4)) : tabOk t = false := by
  unfold tabOk
  rw [Bool.eq_false_iff]
  intro e
  simp only [Bool.and_eq_true, decide_eq_true_eq] at e
  exact h ⟨e.1.1.1.1, e.1.1.1.2, e.1.1.2, e.1.2⟩
theorem tabOk_long {t : List (List Int)} (h : 1 ≤ t.length ∧ t.length ≤ 4 ∧ 1 ≤ wide t ∧ wide t ≤ 4) : tabOk t = t.all (rowOk (wide t)) := by
  unfold tabOk
  simp [h.1, h.2.1, h.2.2.1, h.2.2.2]
theorem all_step {α : Type} {p : α → Bool} {l : List α} {k : Nat} (h : k < l.length) (ha : (l.take k).all p = true) (hk : p l[k] = true) : (l.take (k + 1)).all p = true := by
  rw [List.take_succ_eq_append_getElem h, List.all_append, ha]; simp [hk]
theorem all_not {α : Type} {p : α → Bool} {l : List α} {k : Nat} (h : k < l.length) (hk : p l[k] = false) : l.all p = false := by
  rw [List.all_eq_false]; exact ⟨l[k], List.getElem_mem h, by simp [hk]⟩

set_option maxHeartbeats 1000000 in
theorem TableValid_any (a : Option Addr) (c : Nat) (t : List (List Int)) (w : World) (ht : IRows w a t) (hm : t.length ≤ 9223372036854775807) :
    Calls Try.prog 21 #[.slice a t.length c] w fun e w' => e = .returned (.bool (tabOk t)) ∧ w = w' := by
  have HT := Lib.hid ht; clear ht
  rcases Nat.lt_or_ge t.length 1 with h1 | h1
  · have e1 : (t.length : Int) < 1 := by omega
    have ho := Lib.hid (tabOk_short (t := t) (fun h => by omega))
    go_enter Try.func21, Try.ntmps21
    go_wp2_with fail
    go_ret
    exact ⟨ret_bool ho.out.symm, rfl⟩
  have e1 : ¬ (t.length : Int) < 1 := by omega
  have b1 : decide ((t.length : Int) < 1) = false := by simpa using e1
  rcases Nat.lt_or_ge 4 t.length with h2 | h2
  · have e2 : (4 : Int) < (t.length : Int) := by omega
    have ho := Lib.hid (tabOk_short (t := t) (fun h => by omega))
    go_enter Try.func21, Try.ntmps21
    go_wp2_with fail
    go_ret
    exact ⟨ret_bool ho.out.symm, rfl⟩
  have e2 : ¬ (4 : Int) < (t.length : Int) := by omega
  have b2 : decide (4 < t.length) = false := by simpa using h2
  have h0 : 0 < t.length := by omega
  obtain ⟨b, off, a0, c0, rfl, hc0, _, _, hr0⟩ := HT.out 0 h0
  rw [← wide_eq h0] at hc0
  simp only [Nat.add_zero] at hc0
  have h0z : (0 : Int) < (t.length : Int) := by omega
  rcases Nat.lt_or_ge (wide t) 1 with h3 | h3
  · have e3 : (wide t : Int) < 1 := by omega
    have ho := Lib.hid (tabOk_short (t := t) (fun h => by omega))
    go_enter Try.func21, Try.ntmps21
    go_wp2_with fail
    go_ret
    exact ⟨ret_bool ho.out.symm, rfl⟩
  have e3 : ¬ (wide t : Int) < 1 := by omega
  have b3 : decide ((wide t : Int) < 1) = false := by simpa using e3
  rcases Nat.lt_or_ge 4 (wide t) with h4 | h4
  · have e4 : (4 : Int) < (wide t : Int) := by omega
    have ho := Lib.hid (tabOk_short (t := t) (fun h => by omega))
    go_enter Try.func21, Try.ntmps21
    go_wp2_with fail
    go_ret
    exact ⟨ret_bool ho.out.symm, rfl⟩
  have e4 : ¬ (4 : Int) < (wide t : Int) := by omega
  have b4 : decide (4 < wide t) = false := by simpa using h4
  have HL := Lib.hid (tabOk_long (t := t) ⟨h1, h2, h3, h4⟩)
  go_enter Try.func21, Try.ntmps21
  go_wp2_with fail
  go_loop [31] (fun i => ∃ k : Nat, k ≤ t.length ∧ i = .int .i64 k ∧ Hid ((t.take k).all (rowOk (wide t)) = true)) (fun i => t.length - (intOf i).toNat)
  case atStart => exact ⟨0, Nat.zero_le _, rfl, by simp [Hid]⟩
  case round =>
    obtain ⟨k, hk, rfl, hall⟩ := hrel
    by_cases hlt : k < t.length
    · have hltz : (k : Int) < (t.length : Int) := by omega
      obtain ⟨b', off', ak, ck, hb, hck, _, _, hrk⟩ := HT.out k hlt
      cases hb
      by_cases hw : t[k].length = wide t
      · rw [hw] at hck
        have HRK := Lib.hid hrk; clear hrk
        have HW := Lib.hid hw; clear hw
        go_wp2_with fail
        go_loop [44] (fun i => ∃ j : Nat, j ≤ wide t ∧ i = .int .i64 j ∧ Hid ((t[k].take j).all cellOk = true)) (fun i => wide t - (intOf i).toNat)
        case atStart => exact ⟨0, Nat.zero_le _, rfl, by simp [Hid]⟩
        case round =>
          obtain ⟨j, hj, rfl, hallj⟩ := hrel
          by_cases hjt : j < wide t
          · have hjz : (j : Int) < (wide t : Int) := by omega
            have hjk : j < t[k].length := by rw [HW.out]; exact hjt
            obtain ⟨b2', off2, rfl, hcj⟩ := HRK.out j hjk
            obtain ⟨z, hz⟩ : ∃ z, t[k][j] = z := ⟨_, rfl⟩
            rw [hz] at hcj
            have HZ := Lib.hid hz; clear hz
            unfold encI at hcj
            by_cases hz0 : z < 0
            · go_wp2_with fail
              go_ret
              refine ⟨ret_bool ?_, rfl⟩
              rw [HL.out, all_not hlt]
              unfold rowOk
              rw [all_not hjk, Bool.and_false]
              rw [HZ.out]; simp [cellOk]; omega
            · have bz0 : decide (z < 0) = false := by simpa using hz0
              by_cases hz9 : 99 < z
              · go_wp2_with fail
                go_ret
                refine ⟨ret_bool ?_, rfl⟩
                rw [HL.out, all_not hlt]
                unfold rowOk
                rw [all_not hjk, Bool.and_false]
                rw [HZ.out]; simp [cellOk]; omega
              · have bz9 : decide (99 < z) = false := by simpa using hz9
                go_wp2_with fail
                go_round
                case rel => exact ⟨j + 1, by omega, by go_num, all_step hjk hallj.out (by rw [HZ.out]; simp [cellOk]; omega)⟩
                case measure => simp [intOf]; omega
          · have hjz : ¬ (j : Int) < (wide t : Int) := by omega
            have hrow : rowOk (wide t) t[k] = true := by
              have := hallj.out
              rw [List.take_of_length_le (by rw [HW.out]; omega)] at this
              simp [rowOk, HW.out, this]
            have HR := Lib.hid hrow; clear hrow
            go_wp2_with fail
            go_round
            case rel => exact ⟨k + 1, by omega, by go_num, all_step hlt hall.out HR.out⟩
            case measure => simp [intOf]; omega
      · have hwz : ((t[k].length : Int) != (wide t : Int)) = true := by rw [bne_iff_ne]; omega
        have hwz2 : ¬ (t[k].length : Int) = (wide t : Int) := by omega
        have hno : rowOk (wide t) t[k] = false := by simp [rowOk, hw]
        have HN := Lib.hid hno; clear hno hw
        go_wp2_with fail
        go_ret
        exact ⟨ret_bool (by rw [HL.out, all_not hlt HN.out]), rfl⟩
    · have hltz : ¬ (k : Int) < (t.length : Int) := by omega
      go_wp2_with fail
      go_ret
      refine ⟨ret_bool ?_, rfl⟩
      have := hall.out
      rw [List.take_of_length_le (by omega)] at this
      rw [HL.out, this]
end Go.Proofs.Ytelcdjbbcffliaa

/- New tables, copies, comparisons. -/
namespace Go.Proofs.Ytelcdjbbcffliaa
open Go.RowKit Go.DC
abbrev OwnI := @OwnT Int encI 3 28
abbrev OwnB := @OwnT Bool encB 4 53
theorem Try.dcInfoInt : (Try.prog.info? 3).map (fun i => (i.zero, i.size, i.bytes)) = some (some (.int .i64 0), 1, 8) := by kernel_rfl
theorem Try.dcInfoInts : (Try.prog.info? 28).map (fun i => (i.zero, i.size, i.bytes)) = some (some (.slice none 0 0), 1, 24) := by kernel_rfl

theorem own_made (w : World) (m B : Nat) (hB : B ≤ w.heap.size) (hm : m ≤ 9223372036854775807) :
    (w.alloc (.cells (madeCells #[.int .i64 0] m) 3)).ownsRow B 3 1 (.slice (some ⟨w.heap.size, 0, none⟩) m m) (List.replicate m (0 : Int)).length ((List.replicate m (0 : Int)).map encI) := by
  have := World.ownsRow_lit (base := B) (e := 3) (size := 1) w (madeCells #[.int .i64 0] m) m hB (by unfold maxLen; omega) (by simp [size_madeCells])
  rw [toList_madeCells_one] at this
  simpa using this

abbrev NewI := @NewTab Int encI 3 28

theorem set_fill {α : Type} {n k : Nat} (x : α) (y : α) (h : k < n) : (List.replicate k x ++ List.replicate (n - k) y).set k x = List.replicate (k + 1) x ++ List.replicate (n - (k + 1)) y := by
  apply List.ext_getElem
  · simp; omega
  · intro i h1 h2
    simp only [List.getElem_set, List.getElem_append, List.getElem_replicate, List.length_replicate]
    repeat' split
    all_goals first | rfl | omega

set_option maxHeartbeats 1000000 in
theorem emptyTable_any (h m : Nat) (w : World) (hh : h ≤ 8) (hm : m ≤ 8) :
    Calls Try.prog 57 #[.int .i64 h, .int .i64 m] w (NewI (List.replicate h (List.replicate m 0)) w) := by
  have hmk := run_make_row' (P := Try.prog) 23 28 (.slice none 0 0) 24 Try.underlying23 Try.dcInfoInts rfl .i64 .i64 h (by omega) (by omega)
  go_enter Try.func57, Try.ntmps57
  go_wp2_with fail
  clear hmk
  go_loopg [11] h (fun g i wr => ∃ (k : Nat) (vs : List Value), k ≤ h ∧ g = h - k ∧ i = .int .i64 k ∧ OwnI wr w.heap.size (.slice (some ⟨w.heap.size, 0, none⟩) h h) vs (List.replicate k (List.replicate m 0) ++ List.replicate (h - k) []) ∧ Ext w wr)
  case atStart => exact ⟨0, _, Nat.zero_le _, rfl, rfl, by simpa using OwnT.made (enc := encI) (te := 3) (ts := 28) w h (Nat.le_refl _) (by omega), (Ext.refl _).alloc _⟩
  case round =>
    obtain ⟨k, vs, hk, rfl, rfl, own, hext⟩ := hrel
    by_cases hlt : k < h
    · have hz : (k : Int) < (h : Int) := by omega
      have hlen : k < (List.replicate k (List.replicate m (0 : Int)) ++ List.replicate (h - k) []).length := by simp; omega
      have hmk := run_make_row' (P := Try.prog) 28 3 (.int .i64 0) 8 Try.underlying28 Try.dcInfoInt rfl .i64 .i64 m (by omega) (by omega)
      have hsz := hext.size
      have own1 := own.ext ((Ext.refl wr).alloc (.cells (madeCells #[.int .i64 0] m) 3))
      have hsl : w.heap.size < wr.heap.size := (own.outer_lt rfl).2
      obtain ⟨c1, hc1, _, hf1⟩ := own1.cellAt hlen
      have hset := own1.setRow (u := .slice (some ⟨wr.heap.size, 0, none⟩) m m) (zs := List.replicate m 0) hlen (own_made wr m w.heap.size hsz (by omega)) (fun b hb => by simp [Value.ownBlock] at hb; omega)
        (fun l hl _ b hb => by
          simp [Value.ownBlock] at hb
          intro hh
          have := (own.inner_lt hl hh).2
          omega)
      rw [set_fill _ _ hlt, World.setCell_alloc_past _ _ _ _ hsl] at hset
      have HS := Lib.hid hset; clear hset own own1
      go_wp2_with fail
      go_roundg (h - (k + 1))
      case measure => omega
      case rel => exact ⟨k + 1, _, by omega, rfl, by go_num, HS.out, (hext.setCell (p := ⟨w.heap.size, k, none⟩) (Nat.le_refl _) _).alloc _⟩
    · have hz : ¬ (k : Int) < (h : Int) := by omega
      go_wp2_with fail
      go_ret
      have hkh : k = h := by omega
      subst hkh
      exact ⟨_, vs, rfl, by simpa using own, hext⟩
end Go.Proofs.Ytelcdjbbcffliaa

/- Two lists of rows have the same sizes. -/
namespace Go.Proofs.Ytelcdjbbcffliaa
open Go.RowKit Go.DC
def shape {α : Type} (t : List (List α)) : List Nat := t.map List.length
theorem shape_eq {α β : Type} {s : List (List α)} {t : List (List β)} (hl : s.length = t.length) (h : ∀ k (h1 : k < s.length) (h2 : k < t.length), s[k].length = t[k].length) : shape s = shape t := by
  apply List.ext_getElem
  · simpa [shape] using hl
  · intro i h1 h2
    simp only [shape, List.length_map] at h1 h2
    simpa [shape] using h i h1 h2
theorem shape_ne {α β : Type} {s : List (List α)} {t : List (List β)} {k : Nat} (h1 : k < s.length) (h2 : k < t.length) (h : ¬ s[k].length = t[k].length) : ¬ shape s = shape t := fun e => h (by
  have e1 : (shape s)[k]? = some s[k].length := by simp [shape, h1]
  have e2 : (shape t)[k]? = some t[k].length := by simp [shape, h2]
  rw [e, e2] at e1
  exact (Option.some.inj e1).symm)
theorem shape_len {α β : Type} {s : List (List α)} {t : List (List β)} (e : shape s = shape t) : s.length = t.length := by
  have := congrArg List.length e
  simpa [shape] using this
set_option maxHeartbeats 1000000 in
theorem lenEq_any (a b : Option Addr) (n m c d : Nat) (w : World) :
    Calls Try.prog 74 #[.slice a n c, .slice b m d] w fun e w' => e = .returned (.bool (decide (n = m))) ∧ w = w' := by
  go_enter Try.func74, Try.ntmps74
  go_wp2
  go_ret
  refine ⟨ret_bool ?_, rfl⟩
  rw [Bool.eq_iff_iff]; simp; try omega
set_option maxHeartbeats 1000000 in
theorem EqualFunc_any (a b : Option Addr) (c d : Nat) (s t : List (List Int)) (w : World) (hs : IRows w a s) (ht : IRows w b t) (hm : s.length ≤ 9223372036854775807) (_hm2 : t.length ≤ 9223372036854775807) :
    Calls Try.prog 73 #[.slice a s.length c, .slice b t.length d, .func (.func 74) #[] #[]] w fun e w' => e = .returned (.bool (decide (shape s = shape t))) ∧ w = w' := by
  have HS := Lib.hid hs; clear hs
  have HT := Lib.hid ht; clear ht
  by_cases hl : s.length = t.length
  · have hlb : ((s.length : Int) != (t.length : Int)) = false := by rw [hl]; simp
    have HL := Lib.hid hl; clear hl
    go_enter Try.func73, Try.ntmps73
    go_wp2_with fail
    go_loop [17] (fun i => ∃ k : Nat, k ≤ s.length ∧ i = .int .i64 k ∧ (∀ j (h1 : j < s.length) (h2 : j < t.length), j < k → s[j].length = t[j].length)) (fun i => s.length - (intOf i).toNat)
    case atStart => exact ⟨0, Nat.zero_le _, rfl, fun j _ _ h => absurd h (by omega)⟩
    case round =>
      obtain ⟨k, hk, rfl, hsame⟩ := hrel
      have HA := Lib.hid hsame; clear hsame
      by_cases hlt : k < s.length
      · have hz : (k : Int) < (s.length : Int) := by omega
        have hlt2 : k < t.length := by rw [← HL.out]; exact hlt
        have hz2 : (k : Int) < (t.length : Int) := by omega
        obtain ⟨g1, o1, ak, ck, rfl, c1, _, _, _⟩ := HS.out k hlt
        obtain ⟨g2, o2, bk, dk, rfl, c2, _, _, _⟩ := HT.out k hlt2
        go_wp2_with fail
        refine (lenEq_any _ _ _ _ _ _ _).mono ?_
        rintro e w3 ⟨rfl, rfl⟩
        by_cases he : s[k].length = t[k].length
        · have hb : decide (s[k].length = t[k].length) = true := by simpa using he
          rw [hb]
          have HE := Lib.hid he; clear he hb
          go_wp2_with fail
          go_round
          case rel => exact ⟨k + 1, by omega, by go_num, fun j h1 h2 hj => by
            by_cases e : j = k
            · subst e; exact HE.out
            · exact HA.out j h1 h2 (by omega)⟩
          case measure => simp [intOf]; omega
        · have hb : decide (s[k].length = t[k].length) = false := by simpa using he
          rw [hb]
          have HE := Lib.hid he; clear he hb
          go_wp2_with fail
          go_ret
          exact ⟨ret_bool (decide_eq_false (shape_ne hlt hlt2 HE.out)).symm, rfl⟩
      · have hz : ¬ (k : Int) < (s.length : Int) := by omega
        go_wp2_with fail
        go_ret
        exact ⟨ret_bool (decide_eq_true (shape_eq HL.out (fun j h1 h2 => HA.out j h1 h2 (by omega)))).symm, rfl⟩
  · have hlb : ((s.length : Int) != (t.length : Int)) = true := by rw [bne_iff_ne]; omega
    have hlb2 : ¬ (s.length : Int) = (t.length : Int) := by omega
    have hne : ¬ shape s = shape t := fun e => hl (shape_len e)
    have HN := Lib.hid hne; clear hne hl
    go_enter Try.func73, Try.ntmps73
    go_wp2_with fail
    go_ret
    exact ⟨ret_bool (decide_eq_false HN.out).symm, rfl⟩
set_option maxHeartbeats 1000000 in
theorem sameShape_any (a b : Option Addr) (c d : Nat) (s t : List (List Int)) (w : World) (hs : IRows w a s) (ht : IRows w b t) (hm : s.length ≤ 9223372036854775807) (hm2 : t.length ≤ 9223372036854775807) :
    Calls Try.prog 50 #[.slice a s.length c, .slice b t.length d] w fun e w' => e = .returned (.bool (decide (shape s = shape t))) ∧ w = w' := by
  go_enter Try.func50, Try.ntmps50
  go_wp2_with fail
  refine (EqualFunc_any _ _ _ _ s t _ hs ht hm hm2).mono ?_
  rintro e w3 ⟨rfl, rfl⟩
  go_wp2_with fail
  go_ret
  exact ⟨rfl, rfl⟩
end Go.Proofs.Ytelcdjbbcffliaa

/- Copies of rows and tables. -/
namespace Go.Proofs.Ytelcdjbbcffliaa
open Go.RowKit Go.DC
theorem Try.dcElemI : (Try.prog.info? 3).map (fun i => (i.zero, i.size, i.bytes)) = some (some (.int .i64 0), 1, 8) := by kernel_rfl
theorem Try.dcRowI : (Try.prog.info? 28).map (fun i => (i.zero, i.size, i.bytes)) = some (some (.slice none 0 0), 1, 24) := by kernel_rfl
theorem oneI (zs : List Int) : ∀ u ∈ zs.map encI, u.oneCell' = true := by
  intro u hu
  obtain ⟨z, _, rfl⟩ := List.mem_map.1 hu
  rfl

/-- append of cells onto a row of one's own. -/
theorem wpList_rowI {w : World} {ops : Array Oper} {rest : List Oper} {o : Oper} {a : Act} {Q : Exit → Act → World → Prop} (hgd : o.guard = none) (s x : Operand)
    (ho : o.op = .call { callee := .builtin .append, args := #[s, x], argTypes := #[28, 28] })
    (B : Nat) (v : Value) (ys : List Int) (hs : a.eval s = v) (own : w.ownsRow B 3 1 v ys.length (ys.map encI)) (aa : Option Addr) (c : Nat) (zs : List Int) (hx : a.eval x = .slice aa zs.length c) (hn : aa = none → c = 0) (hr : IRow w aa zs)
    (hb : ys.length + zs.length ≤ 10000000) (hB : B ≤ w.heap.size)
    (h : ∀ v' w', w'.ownsRow B 3 1 v' (ys ++ zs).length ((ys ++ zs).map encI) → w.grownBy w' v.ownBlock → (v' = .slice none 0 0 ↔ v = .slice none 0 0 ∧ zs.length = 0) → (v'.ownBlock = v.ownBlock ∨ v'.ownBlock = some w.heap.size) → wpList Try.prog ops Q rest (a.put o.dst v') w') : wpList Try.prog ops Q (o :: rest) a w := by
  obtain ⟨i0, hi, hz0, hz1, hz2⟩ := info_parts Try.dcElemI
  refine wpList_append_any hgd s x 28 ho B 3 i0 (.int .i64 0) 1 8 Try.underlying28 hi hz0 hz1 hz2 rfl (by decide) v ys.length (ys.map encI) hs own aa zs.length c (zs.map encI) hx hn (by simp) hr.news (oneI zs) (by unfold maxLen; omega) (by omega) hB ?_
  intro v' w' h1 h2 h3 h4
  exact h v' w' (by simpa using h1) h2 h3 h4
/-- append of a row onto a table of one's own. -/
theorem wpList_pushI {w : World} {ops : Array Oper} {rest : List Oper} {o : Oper} {a : Act} {Q : Exit → Act → World → Prop} (hgd : o.guard = none) (s x : Operand)
    (ho : o.op = .call { callee := .builtin .append, args := #[s, x], argTypes := #[23, 23] })
    (B : Nat) (v : Value) (vs : List Value) (t : List (List Int)) (hs : a.eval s = v) (own : OwnI w B v vs t) (g : Nat) (hx : a.eval x = .slice (some ⟨g, 0, none⟩) 1 1) (u : Value) (hu1 : u.oneCell' = true) (hg : w.cell? ⟨g, 0, none⟩ = some u) (zs : List Int)
    (hu : w.ownsRow B 3 1 u zs.length (zs.map encI)) (hne : ∀ b, u.ownBlock = some b → v.ownBlock ≠ some b) (hap : ∀ l (_ : l < vs.length), ∀ b, u.ownBlock = some b → vs[l].ownBlock ≠ some b)
    (hb : t.length ≤ 10000000) (hB : B ≤ w.heap.size)
    (h : ∀ v' w', OwnI w' B v' (vs ++ [u]) (t ++ [zs]) → w.grownBy w' v.ownBlock → (v' = .slice none 0 0 ↔ v = .slice none 0 0 ∧ 1 = 0) → wpList Try.prog ops Q rest (a.put o.dst v') w') : wpList Try.prog ops Q (o :: rest) a w := by
  obtain ⟨i0, hi, hz0, hz1, hz2⟩ := info_parts Try.dcRowI
  refine wpList_append_any hgd s x 23 ho B 28 i0 (.slice none 0 0) 1 24 Try.underlying23 hi hz0 hz1 hz2 rfl (by decide) v t.length vs hs own.outer (some ⟨g, 0, none⟩) 1 1 [u] hx (fun h => by cases h) rfl ?_ (by simpa using hu1) (by unfold maxLen; omega) (by omega) hB ?_
  · intro j y hj
    cases j with
    | zero => simp at hj; subst hj; exact ⟨_, rfl, by simpa [Addr.add] using hg⟩
    | succ j => simp at hj
  · intro v' w' h1 h2 h3 h4
    exact h v' w' (own.push hu hne hap h1 h2 (h4.imp_right fun e => ⟨_, e, Nat.le_refl _⟩)) h2 h3

end Go.Proofs.Ytelcdjbbcffliaa

/- Copies of rows and tables. -/
namespace Go.Proofs.Ytelcdjbbcffliaa
open Go.RowKit Go.DC
theorem Try.dcElemB : (Try.prog.info? 4).map (fun i => (i.zero, i.size, i.bytes)) = some (some (.bool false), 1, 1) := by kernel_rfl
theorem Try.dcRowB : (Try.prog.info? 53).map (fun i => (i.zero, i.size, i.bytes)) = some (some (.slice none 0 0), 1, 24) := by kernel_rfl
theorem oneB (zs : List Bool) : ∀ u ∈ zs.map encB, u.oneCell' = true := by
  intro u hu
  obtain ⟨z, _, rfl⟩ := List.mem_map.1 hu
  rfl

/-- append of cells onto a row of one's own. -/
theorem wpList_rowB {w : World} {ops : Array Oper} {rest : List Oper} {o : Oper} {a : Act} {Q : Exit → Act → World → Prop} (hgd : o.guard = none) (s x : Operand)
    (ho : o.op = .call { callee := .builtin .append, args := #[s, x], argTypes := #[53, 53] })
    (B : Nat) (v : Value) (ys : List Bool) (hs : a.eval s = v) (own : w.ownsRow B 4 1 v ys.length (ys.map encB)) (aa : Option Addr) (c : Nat) (zs : List Bool) (hx : a.eval x = .slice aa zs.length c) (hn : aa = none → c = 0) (hr : BRow w aa zs)
    (hb : ys.length + zs.length ≤ 10000000) (hB : B ≤ w.heap.size)
    (h : ∀ v' w', w'.ownsRow B 4 1 v' (ys ++ zs).length ((ys ++ zs).map encB) → w.grownBy w' v.ownBlock → (v' = .slice none 0 0 ↔ v = .slice none 0 0 ∧ zs.length = 0) → (v'.ownBlock = v.ownBlock ∨ v'.ownBlock = some w.heap.size) → wpList Try.prog ops Q rest (a.put o.dst v') w') : wpList Try.prog ops Q (o :: rest) a w := by
  obtain ⟨i0, hi, hz0, hz1, hz2⟩ := info_parts Try.dcElemB
  refine wpList_append_any hgd s x 53 ho B 4 i0 (.bool false) 1 1 Try.underlying53 hi hz0 hz1 hz2 rfl (by decide) v ys.length (ys.map encB) hs own aa zs.length c (zs.map encB) hx hn (by simp) hr.news (oneB zs) (by unfold maxLen; omega) (by omega) hB ?_
  intro v' w' h1 h2 h3 h4
  exact h v' w' (by simpa using h1) h2 h3 h4
/-- append of a row onto a table of one's own. -/
theorem wpList_pushB {w : World} {ops : Array Oper} {rest : List Oper} {o : Oper} {a : Act} {Q : Exit → Act → World → Prop} (hgd : o.guard = none) (s x : Operand)
    (ho : o.op = .call { callee := .builtin .append, args := #[s, x], argTypes := #[24, 24] })
    (B : Nat) (v : Value) (vs : List Value) (t : List (List Bool)) (hs : a.eval s = v) (own : OwnB w B v vs t) (g : Nat) (hx : a.eval x = .slice (some ⟨g, 0, none⟩) 1 1) (u : Value) (hu1 : u.oneCell' = true) (hg : w.cell? ⟨g, 0, none⟩ = some u) (zs : List Bool)
    (hu : w.ownsRow B 4 1 u zs.length (zs.map encB)) (hne : ∀ b, u.ownBlock = some b → v.ownBlock ≠ some b) (hap : ∀ l (_ : l < vs.length), ∀ b, u.ownBlock = some b → vs[l].ownBlock ≠ some b)
    (hb : t.length ≤ 10000000) (hB : B ≤ w.heap.size)
    (h : ∀ v' w', OwnB w' B v' (vs ++ [u]) (t ++ [zs]) → w.grownBy w' v.ownBlock → (v' = .slice none 0 0 ↔ v = .slice none 0 0 ∧ 1 = 0) → wpList Try.prog ops Q rest (a.put o.dst v') w') : wpList Try.prog ops Q (o :: rest) a w := by
  obtain ⟨i0, hi, hz0, hz1, hz2⟩ := info_parts Try.dcRowB
  refine wpList_append_any hgd s x 24 ho B 53 i0 (.slice none 0 0) 1 24 Try.underlying24 hi hz0 hz1 hz2 rfl (by decide) v t.length vs hs own.outer (some ⟨g, 0, none⟩) 1 1 [u] hx (fun h => by cases h) rfl ?_ (by simpa using hu1) (by unfold maxLen; omega) (by omega) hB ?_
  · intro j y hj
    cases j with
    | zero => simp at hj; subst hj; exact ⟨_, rfl, by simpa [Addr.add] using hg⟩
    | succ j => simp at hj
  · intro v' w' h1 h2 h3 h4
    exact h v' w' (own.push hu hne hap h1 h2 (h4.imp_right fun e => ⟨_, e, Nat.le_refl _⟩)) h2 h3

end Go.Proofs.Ytelcdjbbcffliaa
