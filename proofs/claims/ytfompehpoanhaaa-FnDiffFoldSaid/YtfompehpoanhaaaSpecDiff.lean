/- The reference's difference of two tables. -/
import Derived.Test.YtfompehpoanhaaaSpecTab
namespace Go.Proofs.Ytfompehpoanhaaa
open Go.RowKit Go.DC
theorem shape_iff {s t : List (List Int)} (h1 : tabOk s = true) (h2 : tabOk t = true) : shape s = shape t ↔ s.length = t.length ∧ wide s = wide t := by
  obtain ⟨r1, a1, _, _, _, _⟩ := tabOk_rect h1
  obtain ⟨r2, b1, _, _, _, _⟩ := tabOk_rect h2
  constructor
  · intro e
    have r := shape_rect h1 e
    refine ⟨shape_len e, ?_⟩
    have := r.2 0 (by omega)
    rw [r2.2 0 (by omega)] at this
    exact this.symm
  · rintro ⟨e1, e2⟩
    exact shape_eq e1 (fun k h1' h2' => by rw [r1.2 k h1', r2.2 k h2', e2])
set_option maxHeartbeats 2000000 in
theorem sDiffTable_any (a b : Option Addr) (c d : Nat) (s t : List (List Int)) (w : World) (hs : IRows w a s) (ht : IRows w b t) (hm : s.length ≤ 9223372036854775807) (hm2 : t.length ≤ 9223372036854775807) :
    Calls Try.prog 15 #[.slice a s.length c, .slice b t.length d] w (DiffOut s t w) := by
  have QA := Lib.hid (fun n => sTableValid_q a c s (w.drewN n) (hs.ext ((Ext.refl w).drewN n)) hm)
  have QB := Lib.hid (fun n => sTableValid_q b d t (w.drewN n) (ht.ext ((Ext.refl w).drewN n)) hm2)
  have HS := Lib.hid hs; clear hs
  have HT := Lib.hid ht; clear ht
  have fin : ∀ n, diffOk s t = false → DiffOut s t w (.returned (.tuple #[.slice (some ⟨w.heap.size, 0, none⟩) 0 0, .bool false])) ((w.drewN n).alloc (.cells #[] 43)) := fun n hd =>
    ⟨_, [], by rw [hd], by unfold diffT; rw [hd]; exact ownT_empty (enc := encI) (te := 3) (ts := 43) (w.drewN n) (Nat.le_refl _), ((Ext.refl w).drewN n).alloc _⟩
  have FIN := Lib.hid fin; clear fin
  by_cases o1 : tabOk s = true
  case neg =>
    have o1' : tabOk s = false := by simpa using o1
    have hd : diffOk s t = false := by simp [diffOk, o1']
    rw [o1'] at QA
    have HD := Lib.hid hd; clear hd o1 o1'
    go_enter Try.func15, Try.ntmps15
    go_wp2_with fail
    go_quiet ((go_at_call 45; exact Calls.quiet_of (QA.out _)))
    go_wp2_with fail
    go_ret2
    exact FIN.out _ HD.out
  rw [o1] at QA
  have O1 := Lib.hid o1; clear o1
  by_cases o2 : tabOk t = true
  case neg =>
    have o2' : tabOk t = false := by simpa using o2
    have hd : diffOk s t = false := by simp [diffOk, o2']
    rw [o2'] at QB
    have HD := Lib.hid hd; clear hd o2 o2'
    go_enter Try.func15, Try.ntmps15
    go_wp2_with fail
    go_quiet ((first | (go_at_call_of 45 (Value.slice a s.length c); exact Calls.quiet_of (QA.out _)) | (go_at_call_of 45 (Value.slice b t.length d); exact Calls.quiet_of (QB.out _))))
    go_wp2_with fail
    go_ret2
    exact FIN.out _ HD.out
  rw [o2] at QB
  have O2 := Lib.hid o2; clear o2
  have hsh := shape_iff O1.out O2.out
  have SH := Lib.hid hsh; clear hsh
  obtain ⟨r1, hs1, hs4, hw1, hw4, hcs⟩ := tabOk_rect O1.out
  obtain ⟨r2, ht1, ht4, hv1, hv4, hct⟩ := tabOk_rect O2.out
  have R1 := Lib.hid r1; have R2 := Lib.hid r2; have CS := Lib.hid hcs; have CT := Lib.hid hct
  clear r1 r2 hcs hct
  by_cases o3 : s.length = t.length
  case neg =>
    have hd : diffOk s t = false := by simp [diffOk, SH.out, o3]
    have hb3 : ((s.length : Int) != (t.length : Int)) = true := by rw [bne_iff_ne]; omega
    have HD := Lib.hid hd; clear hd o3
    go_enter Try.func15, Try.ntmps15
    go_wp2_with fail
    go_quiet ((first | (go_at_call_of 45 (Value.slice a s.length c); exact Calls.quiet_of (QA.out _)) | (go_at_call_of 45 (Value.slice b t.length d); exact Calls.quiet_of (QB.out _))))
    go_wp2_with fail
    go_ret2
    exact FIN.out _ HD.out
  have hb3 : ((s.length : Int) != (t.length : Int)) = false := by rw [o3]; simp
  have O3 := Lib.hid o3; clear o3
  have h0s : 0 < s.length := by omega
  have h0t : 0 < t.length := by omega
  have h0zs : (0 : Int) < (s.length : Int) := by omega
  have h0zt : (0 : Int) < (t.length : Int) := by omega
  obtain ⟨b1, f1, a1, c1, rfl, hc1⟩ := HS.out.rowC R1.out h0s
  obtain ⟨b2, f2, a2, c2, rfl, hc2⟩ := HT.out.rowC R2.out h0t
  simp only [Nat.add_zero] at hc1 hc2
  by_cases o4 : wide s = wide t
  case neg =>
    have hd : diffOk s t = false := by simp [diffOk, SH.out, o4]
    have hb4 : ((wide s : Int) != (wide t : Int)) = true := by rw [bne_iff_ne]; omega
    have HD := Lib.hid hd; clear hd o4
    go_enter Try.func15, Try.ntmps15
    go_wp2_with fail
    go_quiet ((first | (go_at_call_of 45 (Value.slice (some ⟨b1, f1, none⟩) s.length c); exact Calls.quiet_of (QA.out _)) | (go_at_call_of 45 (Value.slice (some ⟨b2, f2, none⟩) t.length d); exact Calls.quiet_of (QB.out _))))
    go_wp2_with fail
    go_ret2
    exact FIN.out _ HD.out
  have hb4 : ((wide s : Int) != (wide t : Int)) = false := by rw [o4]; simp
  have hdo : diffOk s t = tabOk (subT s t) := by simp [diffOk, O1.out, O2.out, SH.out.2 ⟨O3.out, o4⟩]
  have HDO := Lib.hid hdo; clear hdo
  have r2' : Rect t s.length (wide s) := ⟨O3.out.symm, fun k hk => by rw [R2.out.2 k hk, o4]⟩
  have R2' := Lib.hid r2'
  have O4 := Lib.hid o4; clear o4 r2'
  have hl4 : ∀ k (h : k < s.length), s[k].length ≤ 2000000 := fun k hk => by rw [R1.out.2 k hk]; omega
  have HL4 := Lib.hid hl4; clear hl4
  go_enter Try.func15, Try.ntmps15
  go_wp2_with fail
  go_quiet ((first | (go_at_call_of 45 (Value.slice (some ⟨b1, f1, none⟩) s.length c); exact Calls.quiet_of (QA.out _)) | (go_at_call_of 45 (Value.slice (some ⟨b2, f2, none⟩) t.length d); exact Calls.quiet_of (QB.out _))))
  go_wp2_with fail
  refine (l11Copy_any _ _ s _ (HS.out.ext ((Ext.refl w).drewN _)) (by omega) HL4.out).mono ?_
  rintro e w1 ⟨v, vs, rfl, own1, e1⟩
  have E1 : Ext w w1 := ((Ext.refl w).drewN _).trans e1
  obtain ⟨av, cv, rfl, _, _, _⟩ := own1.rows
  have own2 : OwnI w1 w.heap.size (.slice av s.length cv) vs (tabOf s.length (wide s) (get 0 s)) := by rw [← R1.out.eq 0]; exact own1
  clear own1 e1
  go_wp2_with fail
  go_loopg [7] s.length (fun g i wr => ∃ k : Nat, k ≤ s.length ∧ g = s.length - k ∧ i = .int .i64 k ∧ OwnI wr w.heap.size (.slice av s.length cv) vs (tabOf s.length (wide s) (fun i j => if i < k then get 0 s i j - get 0 t i j else get 0 s i j)) ∧ Ext w wr)
  case atStart => exact ⟨0, Nat.zero_le _, rfl, rfl, by rw [tabOf_congr (f := get 0 s) (fun i j _ _ => by simp)]; exact own2, E1⟩
  case round =>
    clear own2 E1
    obtain ⟨k, hk, rfl, rfl, own, hext⟩ := hrel
    by_cases hlt : k < s.length
    · have hz : (k : Int) < (s.length : Int) := by omega
      go_wp2_with fail
      go_loopg [8] (wide s) (fun g i wi => ∃ j : Nat, j ≤ wide s ∧ g = wide s - j ∧ i = .int .i64 j ∧ OwnI wi w.heap.size (.slice av s.length cv) vs (tabOf s.length (wide s) (fun i' j' => if i' < k ∨ i' = k ∧ j' < j then get 0 s i' j' - get 0 t i' j' else get 0 s i' j')) ∧ Ext w wi)
      case atStart => exact ⟨0, Nat.zero_le _, rfl, rfl, by rw [tabOf_congr (f := fun i j => if i < k then get 0 s i j - get 0 t i j else get 0 s i j) (fun i j _ _ => by simp)]; exact own, hext⟩
      case round =>
        clear own hext
        obtain ⟨j, hj, rfl, rfl, own, hext⟩ := hrel
        have hcz := hext.cell hc1
        by_cases hjt : j < wide s
        · have hjz : (j : Int) < (wide s : Int) := by omega
          have hkt : (k : Int) < (t.length : Int) := by have := O3.out; omega
          obtain ⟨o, co, g, ck, ev, ho, co1, hg, hgo, hvs, cg, fg, _⟩ := own.atC hlt hjt
          cases ev
          obtain ⟨tb, tf, tb2, tf2, tk, et, ct1, ct2⟩ := (HT.out.ext hext).atC 0 R2'.out hlt hjt
          cases et
          have hset := own.setC (j := j) hlt hvs (get 0 s k j - get 0 t k j)
          rw [tabOf_congr (f := fun i' j' => if i' < k ∨ i' = k ∧ j' < j + 1 then get 0 s i' j' - get 0 t i' j' else get 0 s i' j') (fun i' j' _ _ => by
            unfold upd
            by_cases e : i' = k ∧ j' = j
            · obtain ⟨rfl, rfl⟩ := e; rw [if_pos ⟨rfl, rfl⟩, if_pos (by omega)]
            · rw [if_neg e]
              show (if i' < k ∨ i' = k ∧ j' < j then _ else _) = _
              by_cases e2 : i' < k ∨ i' = k ∧ j' < j
              · rw [if_pos e2, if_pos (by omega)]
              · rw [if_neg e2, if_neg (by omega)])] at hset
          rw [if_neg (by omega)] at cg
          have hx := CS.out k j hlt hjt
          have hy := CT.out k j (by have := O3.out; omega) (by have := O4.out; omega)
          obtain ⟨x, hxv⟩ : ∃ x, get 0 s k j = x := ⟨_, rfl⟩
          obtain ⟨y, hyv⟩ : ∃ y, get 0 t k j = y := ⟨_, rfl⟩
          rw [hxv] at cg hx hset
          rw [hyv] at ct2 hy hset
          unfold encI at cg ct2
          have HSET := Lib.hid hset
          clear hset own hxv hyv
          obtain ⟨hx0, hx1⟩ := hx
          obtain ⟨hy0, hy1⟩ := hy
          go_wp2_with fail
          go_still_tail 21, (by kernel_rfl)
          go_wp2_with fail
          go_roundg (wide s - (j + 1))
          case measure => omega
          case rel => exact ⟨j + 1, by omega, rfl, by go_num, HSET.out.ext ((Ext.refl _).drew), (hext.setCell (p := ⟨g, j, none⟩) hg _).drew⟩
        · have hjz : ¬ (j : Int) < (wide s : Int) := by omega
          go_wp2_with fail
          go_roundg (s.length - (k + 1))
          case measure => omega
          case rel => exact ⟨k + 1, by omega, rfl, by go_num, by
            rw [tabOf_congr (f := fun i' j' => if i' < k ∨ i' = k ∧ j' < j then get 0 s i' j' - get 0 t i' j' else get 0 s i' j') (fun i' j' _ hj' => by
              by_cases e2 : i' < k + 1
              · rw [if_pos e2, if_pos (by omega)]
              · rw [if_neg e2, if_neg (by omega)])]
            exact own, hext⟩
    · have hz : ¬ (k : Int) < (s.length : Int) := by omega
      rw [tabOf_congr (f := fun i j => get 0 s i j - get 0 t i j) (fun i j hi _ => by rw [if_pos (by omega)])] at own
      obtain ⟨av', cv', ev, _, hrows, _⟩ := own.rows
      rw [tabOf_length] at ev
      cases ev
      have hlen : (tabOf s.length (wide s) (fun i j => get 0 s i j - get 0 t i j)).length = s.length := tabOf_length _ _ _
      have tv := sTableValid_any av cv (tabOf s.length (wide s) (fun i j => get 0 s i j - get 0 t i j)) wr hrows (by rw [hlen]; omega)
      rw [hlen] at tv
      have TV := Lib.hid tv
      have OW := Lib.hid own
      clear tv hrows own
      go_wp2_with fail
      refine TV.out.mono ?_
      rintro e w2 ⟨rfl, e2⟩
      cases ok : tabOk (tabOf s.length (wide s) (fun i j => get 0 s i j - get 0 t i j))
      · have hd : diffOk s t = false := by rw [HDO.out]; exact ok
        have HD := Lib.hid hd; clear hd ok
        go_wp2_with fail
        go_ret2
        exact ⟨_, [], by rw [HD.out]; rfl, by unfold diffT; rw [HD.out]; exact ownT_empty (enc := encI) (te := 3) (ts := 43) w2 (Nat.le_trans hext.size e2.size), (hext.trans e2).alloc _⟩
      · have hd : diffOk s t = true := by rw [HDO.out]; exact ok
        have HD := Lib.hid hd; clear hd ok
        go_wp2_with fail
        go_ret2
        exact ⟨_, vs, by rw [HD.out]; rfl, by unfold diffT; rw [HD.out]; exact OW.out.ext e2, hext.trans e2⟩
end Go.Proofs.Ytfompehpoanhaaa
