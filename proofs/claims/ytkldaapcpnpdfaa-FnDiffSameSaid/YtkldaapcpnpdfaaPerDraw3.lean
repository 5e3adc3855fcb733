/- The drawn arguments of the laws on persons. -/
import Derived.Test.YtkldaapcpnpdfaaPerDraw2
namespace Go.Proofs.Ytkldaapcpnpdfaa
open Go.RowKit Go.DC
theorem OwnP.base {w : World} {B C : Nat} {v : Value} {ps : List Per} (h : OwnP w B v ps) (hc : C ≤ B) : OwnP w C v ps := owns_base h hc

/-- Some people in new memory. -/
def Drew1 (w : World) (e : Ending) (w' : World) : Prop := ∃ v ps, e = .returned v ∧ ps.length ≤ 41 ∧ OwnP w' w.heap.size v ps ∧ Ext w w'
/-- Two lists of people in new memory. -/
def Drew2 (w : World) (e : Ending) (w' : World) : Prop := ∃ u v ps qs, e = .returned (.tuple #[u, v]) ∧ ps.length ≤ 41 ∧ qs.length ≤ 41 ∧ OwnP w' w.heap.size u ps ∧ OwnP w' w.heap.size v qs ∧ Ext w w'

theorem one_pcells (ps : List Per) : ∀ u ∈ pcells ps, u.oneCell' = true := by
  intro u hu
  simp only [pcells, List.mem_flatMap] at hu
  obtain ⟨p, _, hp⟩ := hu
  exact one_cells4 p u hp

set_option maxHeartbeats 1000000 in
theorem DrawTableOf_any (a : Option Addr) (c : Nat) (zs : List Int) (w : World) (hb : Bytes w a zs) (hm : zs.length ≤ 9223372036854775807) (hcap : zs.length ≤ c) :
    Calls Try.prog 23 #[.slice a zs.length c] w (Drew1 w) := by
  go_enter Try.func23, Try.ntmps23
  go_wp2_with fail
  refine (l6Open_any a c zs _ hb hm hcap).mono ?_
  rintro e w1 ⟨r, hr, rfl, R1, e1⟩
  go_wp2_with fail
  refine (l91People_any r 0 12 _ R1 (by omega) (by omega)).mono ?_
  rintro e w2 ⟨v, ps, rfl, hl, own, ⟨q, hq, R2⟩, k2⟩
  go_wp2_with fail
  go_ret
  exact ⟨v, ps, rfl, by omega, own.base e1.size, k2.ext e1 hr⟩

set_option maxHeartbeats 1000000 in
theorem DrawPeopleValid_any (a : Option Addr) (c : Nat) (zs : List Int) (w : World) (hb : Bytes w a zs) (hm : zs.length ≤ 9223372036854775807) (hcap : zs.length ≤ c) :
    Calls Try.prog 11 #[.slice a zs.length c] w (Drew1 w) := by
  obtain ⟨i0, hi, hz0, hz1, hz2⟩ := info_parts Try.dcInfoPer2
  have HI := Lib.hid hi; have HZ0 := Lib.hid hz0; have HZ1 := Lib.hid hz1; have HZ2 := Lib.hid hz2
  clear hi hz0 hz1 hz2
  go_enter Try.func11, Try.ntmps11
  go_wp2_with fail
  refine (l6Open_any a c zs _ hb hm hcap).mono ?_
  rintro e w1 ⟨r, hr, rfl, R1, e1⟩
  go_wp2_with fail
  refine (l91People_any r 0 6 _ R1 (by omega) (by omega)).mono ?_
  rintro e w2 ⟨v, ps, rfl, hl, own0, ⟨q, hq, R2⟩, k2⟩
  have own := own0.base e1.size
  have hrB : r < w1.heap.size := R1.lt
  have E2 := k2.ext e1 hr
  by_cases h3 : 3 < ps.length
  · obtain ⟨g, c2, rfl, hg, hgl⟩ := own.addr (by omega)
    have h3z : (3 : Int) < (ps.length : Int) := by omega
    go_wp2_with fail
    refine (pick_any r q 10 _ R2 (by omega) (by omega)).mono ?_
    rintro e w3 ⟨y, hy0, hy1, rfl, R3, k3⟩
    have own3 : OwnP w3 w.heap.size (.slice (some ⟨g, 0, none⟩) ps.length c2) ps := (own0.keep k3 hrB).base e1.size
    have E3 : Ext w w3 := k3.ext E2 hr
    by_cases y0 : y = 0
    · subst y0
      go_wp2_with fail
      go_loopg [4] (41 - ps.length) (fun gh v wr => ∃ (qs : List Per), 3 < qs.length ∧ qs.length ≤ 41 ∧ gh = 41 - qs.length ∧ OwnP wr w.heap.size v qs ∧ Ext w wr)
      case atStart => exact ⟨ps, h3, by omega, rfl, own3, E3⟩
      case round =>
        clear own3 E3 own own0 E2 k2 k3 R1 R2 R3
        obtain ⟨qs, hq3, hq41, rfl, ow, E⟩ := hrel
        obtain ⟨g, c2, rfl, hg, hgl⟩ := ow.addr (by omega)
        by_cases hle : qs.length ≤ 40
        · have hlz : (qs.length : Int) ≤ 40 := by omega
          have h1q : (1 : Int) < (qs.length : Int) := by omega
          have h1n : 1 < qs.length := by omega
          obtain ⟨c0, c1, c2', c3⟩ := pcells_at qs 1 h1n
          simp only [Nat.one_mul, Nat.reduceAdd] at c0 c1 c2' c3
          rw [← World.ownsRow.cellAt ow _ (by omega)] at c0 c1 c2' c3
          go_wp2_with (at_builtin; refine wpList_append_own _ rfl _ _ 23 rfl w.heap.size 36 i0 (.agg #[.int .i64 0, .int .i64 0, .int .i64 0, .int .i64 0]) 4 32 Try.underlying23 HI.out HZ0.out HZ1.out HZ2.out rfl (by decide) _ _ _ rfl (World.ownsRow.alloc ow _) ⟨wr.heap.size, 0, none⟩ 1 1 qs[1].cells rfl rfl (new_cells4 _ _ _) (one_cells4 _) ?c3 ?c4 ?c5 ?_)
          case c3 => unfold maxLen; omega
          case c4 => omega
          case c5 => have := E.size; simp; omega
          intro v' w8 hown' hgrow _
          have own8 : OwnP w8 w.heap.size v' (qs ++ [qs[1]]) := by
            unfold OwnP; rw [pcells_append, List.length_append]
            simpa [pcells] using hown'
          have E8 : Ext w w8 := (E.alloc _).grownNew hgrow (fun k hk => by cases hk; exact hg)
          clear hown' hgrow ow E
          go_wp2_with fail
          go_roundg (41 - (qs.length + 1))
          case measure => omega
          case rel => exact ⟨qs ++ [qs[1]], by simp; omega, by simp; omega, by simp, own8, E8⟩
        · have hlz : ¬ (qs.length : Int) ≤ 40 := by omega
          go_wp2_with fail
          go_ret
          exact ⟨_, qs, rfl, hq41, ow, E⟩
    · have y0b : (y == 0) = false := by simpa using y0
      go_wp2_with fail
      go_ret
      exact ⟨_, ps, rfl, by omega, own3, E3⟩
  · obtain ⟨a', c2, rfl, hc2, _⟩ := own.pers
    have h3z : ¬ (3 : Int) < (ps.length : Int) := by omega
    have h3b : decide (3 < ps.length) = false := by simpa using h3
    go_wp2_with fail
    go_ret
    exact ⟨_, ps, rfl, by omega, own, E2⟩
set_option maxHeartbeats 1000000 in
theorem DrawDiffPeople_any (a : Option Addr) (c : Nat) (zs : List Int) (w : World) (hb : Bytes w a zs) (hm : zs.length ≤ 9223372036854775807) (hcap : zs.length ≤ c) :
    Calls Try.prog 21 #[.slice a zs.length c] w (Drew2 w) := by
  obtain ⟨i0, hi, hz0, hz1, hz2⟩ := info_parts Try.dcInfoPer2
  have HI := Lib.hid hi; have HZ0 := Lib.hid hz0; have HZ1 := Lib.hid hz1; have HZ2 := Lib.hid hz2
  clear hi hz0 hz1 hz2
  go_enter Try.func21, Try.ntmps21
  go_wp2_with fail
  refine (l6Open_any a c zs _ hb hm hcap).mono ?_
  rintro e w1 ⟨r, hr, rfl, R1, e1⟩
  go_wp2_with fail
  refine (l91People_any r 0 8 _ R1 (by omega) (by omega)).mono ?_
  rintro e w2 ⟨v, ps, rfl, hl, own0, ⟨q0, hq0, R2⟩, k2⟩
  have hrB : r < w1.heap.size := R1.lt
  have E2 := k2.ext e1 hr
  have hblk := own0.lt
  have own := own0.base e1.size
  obtain ⟨av, cv, rfl, hcv, _⟩ := own.pers
  have HB := Lib.hid hblk; clear hblk
  have hr2 : r < w2.heap.size := R2.lt
  have hw12 : w1.heap.size ≤ w2.heap.size := k2.size
  have hw01 : w.heap.size ≤ w1.heap.size := e1.size
  go_wp2_with fail
  go_loopg [6, 7] ps.length (fun gh v i wr => ∃ (k : Nat) (qs : List Per) (q g c2 : Nat), k ≤ ps.length ∧ gh = ps.length - k ∧ i = .int .i64 k ∧ qs.length ≤ k ∧ q ≤ q0 + k ∧ v = .slice (some ⟨g, 0, none⟩) qs.length c2 ∧ OwnP wr w2.heap.size (.slice (some ⟨g, 0, none⟩) qs.length c2) qs
    ∧ OwnP wr w1.heap.size (.slice av ps.length cv) ps ∧ Rd wr r q ∧ w2.heap.size ≤ wr.heap.size ∧ Ext w wr)
  case atStart => exact ⟨0, [], q0, w2.heap.size, 0, Nat.zero_le _, rfl, rfl, by simp, by simp, rfl, World.ownsRow_made w2 #[] 0 (Nat.le_refl _) (by decide) rfl, own0.ext ((Ext.refl _).alloc _), R2.ext ((Ext.refl _).alloc _), by simp, E2.alloc _⟩
  case round =>
    clear own own0 E2 k2 R1 R2
    obtain ⟨k, qs, q, g, c2, hk, rfl, rfl, hqk, hq, rfl, ow, owa, R, hsz, E⟩ := hrel
    have hgl := ow.lt g rfl
    by_cases hlt : k < ps.length
    · have hltz : (k : Int) < (ps.length : Int) := by omega
      go_wp2_with fail
      refine (pick_any r q 3 _ R (by omega) (by omega)).mono ?_
      rintro e w3 ⟨y, hy0, hy1, rfl, R3, k3⟩
      have ow3 := ow.keep k3 hr2
      have owa3 := owa.keep k3 hrB
      have E3 := k3.ext E hr
      have hs3 := Nat.le_trans hsz k3.size
      clear ow owa R E k3
      by_cases hy : 0 < y
      · obtain ⟨a', c', e4, _, pers⟩ := owa3.pers
        cases e4
        obtain ⟨b, off, rfl, h0, h1, h2, h3⟩ := pers k hlt
        clear pers
        have hown0 := World.ownsRow_lit (base := w2.heap.size) (e := 36) (size := 4) w3 #[.int .i64 ps[k].area, .int .i64 ps[k].job, .int .i64 ps[k].sex, .int .i64 ps[k].pay] 1 hs3 (by decide) rfl
        have HO := Lib.hid hown0; clear hown0
        have hsrc := World.ownsRow.cells (World.ownsRow.alloc ow3 (.cells #[.int .i64 ps[k].area, .int .i64 ps[k].job, .int .i64 ps[k].sex, .int .i64 ps[k].pay] 36)) (g := g) rfl
        have HS := Lib.hid hsrc; clear hsrc
        go_wp2_with (at_builtin; refine wpList_append_own _ rfl _ _ 23 rfl w2.heap.size 36 i0 (.agg #[.int .i64 0, .int .i64 0, .int .i64 0, .int .i64 0]) 4 32 Try.underlying23 HI.out HZ0.out HZ1.out HZ2.out rfl (by decide) _ _ _ rfl HO.out ⟨g, 0, none⟩ qs.length c2 (pcells qs) rfl (pcells_length qs) HS.out (one_pcells qs) ?c3 ?c4 ?c5 ?_)
        case c3 => unfold maxLen; omega
        case c4 => omega
        case c5 => simp; omega
        intro v' w8 hown' hgrow hnil
        have own8 : OwnP w8 w2.heap.size v' (ps[k] :: qs) := by
          unfold OwnP; rw [List.length_cons, Nat.add_comm]
          simpa [pcells, Per.cells] using hown'
        have owa8 : OwnP w8 w1.heap.size (.slice (some ⟨b, off, none⟩) ps.length cv) ps :=
          World.ownsRow.kept (owa3.ext ((Ext.refl _).alloc _)) hgrow (.inr (fun e => by
            have := (HB.out b rfl).2
            simp [Value.ownBlock] at e
            omega))
        have hnew : ∀ k, (Value.slice (some (⟨w3.heap.size, 0, none⟩ : Addr)) 1 1).ownBlock = some k → w3.heap.size ≤ k := fun k hk => by simp [Value.ownBlock] at hk; omega
        have R8 : Rd w8 r (q + 1) := (R3.ext ((Ext.refl _).alloc _)).grown hgrow (fun k hk => by have := hnew k hk; omega)
        have E8 : Ext w w8 := (E3.alloc _).grownNew hgrow (fun k hk => by have := hnew k hk; have := E3.size; omega)
        have hs8 : w2.heap.size ≤ w8.heap.size := by have := hgrow.size; simp at this; omega
        obtain ⟨g', c3, rfl, _, _⟩ := own8.addr (by simp)
        clear hown' hgrow ow3 owa3 R3 E3 hnil HO HS
        go_wp2_with fail
        go_roundg (ps.length - (k + 1))
        case measure => omega
        case rel => exact ⟨k + 1, ps[k] :: qs, q + 1, g', c3, by omega, rfl, by go_num, by simp; omega, by omega, rfl, own8, owa8, R8, hs8, E8⟩
      · go_wp2_with fail
        go_roundg (ps.length - (k + 1))
        case measure => omega
        case rel => exact ⟨k + 1, qs, q + 1, g, c2, by omega, rfl, by go_num, by omega, by omega, rfl, ow3, owa3, R3, hs3, E3⟩
    · have hltz : ¬ (k : Int) < (ps.length : Int) := by omega
      go_wp2_with fail
      refine (pick_any r q 4 _ R (by omega) (by omega)).mono ?_
      rintro e w3 ⟨y, hy0, hy1, rfl, R3, k3⟩
      have ow3 := ow.keep k3 hr2
      have owa3 := owa.keep k3 hrB
      have E3 := k3.ext E hr
      have hs3 := Nat.le_trans hsz k3.size
      have hwB : w.heap.size ≤ w2.heap.size := by omega
      clear ow owa R E k3
      by_cases y0 : y = 0
      · subst y0
        go_wp2_with fail
        refine (l91Person_any r (q + 1) _ R3 R3.lt (by omega)).mono ?_
        rintro e w4 ⟨pq, rfl, R4, k4⟩
        have ow4 := ow3.keep k4 hr2
        have owa4 := owa3.keep k4 hrB
        have E4 := k4.ext E3 hr
        have hs4 := Nat.le_trans hs3 k4.size
        clear ow3 owa3 E3 k4 R3
        unfold Per.val
        go_wp2_with (at_builtin; refine wpList_append_own _ rfl _ _ 23 rfl w2.heap.size 36 i0 (.agg #[.int .i64 0, .int .i64 0, .int .i64 0, .int .i64 0]) 4 32 Try.underlying23 HI.out HZ0.out HZ1.out HZ2.out rfl (by decide) _ _ _ rfl (World.ownsRow.alloc ow4 _) ⟨w4.heap.size, 0, none⟩ 1 1 pq.cells rfl rfl (new_cells4 _ _ _) (one_cells4 _) ?c3 ?c4 ?c5 ?_)
        case c3 => unfold maxLen; omega
        case c4 => omega
        case c5 => simp; omega
        intro v' w8 hown' hgrow _
        have own8 : OwnP w8 w2.heap.size v' (qs ++ [pq]) := by
          unfold OwnP; rw [pcells_append, List.length_append]
          simpa [pcells] using hown'
        have owa8 : OwnP w8 w1.heap.size (.slice av ps.length cv) ps :=
          World.ownsRow.kept (owa4.ext ((Ext.refl _).alloc _)) hgrow (by
            cases hv : (Value.slice av ps.length cv).ownBlock with
            | none => exact .inl rfl
            | some b =>
              have := (HB.out b hv).2
              exact .inr (fun e => by simp [Value.ownBlock] at e; omega))
        have E8 : Ext w w8 := (E4.alloc _).grownNew hgrow (fun k hk => by simp [Value.ownBlock] at hk; omega)
        clear hown' hgrow ow4 owa4 E4
        go_wp2_with fail
        go_ret2
        exact ⟨_, _, ps, _, rfl, by omega, by simp; omega, owa8.base hw01, own8.base hwB, E8⟩
      · have y0b : (y == 0) = false := by simpa using y0
        go_wp2_with fail
        go_ret2
        exact ⟨_, _, ps, qs, rfl, by omega, by omega, owa3.base hw01, ow3.base hwB, E3⟩
set_option maxHeartbeats 1000000 in
theorem DrawDiffSame_any (a : Option Addr) (c : Nat) (zs : List Int) (w : World) (hb : Bytes w a zs) (hm : zs.length ≤ 9223372036854775807) (hcap : zs.length ≤ c) :
    Calls Try.prog 22 #[.slice a zs.length c] w (Drew2 w) := by
  go_enter Try.func22, Try.ntmps22
  go_wp2_with fail
  refine (DrawDiffPeople_any a c zs _ hb hm hcap).mono ?_
  rintro e w1 ⟨u, v, ps, qs, rfl, hp, hq, op, oq, e1⟩
  go_wp2_with fail
  go_ret2
  exact ⟨u, v, ps, qs, rfl, hp, hq, op, oq, e1⟩
end Go.Proofs.Ytkldaapcpnpdfaa
