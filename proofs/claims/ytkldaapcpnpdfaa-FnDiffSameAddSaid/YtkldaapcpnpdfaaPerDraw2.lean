/- Drawn lists of persons. -/
import Derived.Test.YtkldaapcpnpdfaaPerDraw
namespace Go.Proofs.Ytkldaapcpnpdfaa
open Go.RowKit Go.DC
def Per.cells (p : Per) : List Value := [.int .i64 p.area, .int .i64 p.job, .int .i64 p.sex, .int .i64 p.pay]
def pcells (ps : List Per) : List Value := ps.flatMap Per.cells
theorem pcells_length (ps : List Per) : (pcells ps).length = ps.length * 4 := by
  induction ps with
  | nil => rfl
  | cons p ps ih => simp only [pcells, List.flatMap_cons, List.length_append, List.length_cons] at ih ⊢; rw [ih]; simp [Per.cells]; omega
theorem pcells_append (ps qs : List Per) : pcells (ps ++ qs) = pcells ps ++ pcells qs := by simp [pcells]
theorem pcells_at : ∀ (ps : List Per) (k : Nat) (h : k < ps.length), (pcells ps)[k * 4]? = some (.int .i64 ps[k].area) ∧ (pcells ps)[k * 4 + 1]? = some (.int .i64 ps[k].job) ∧ (pcells ps)[k * 4 + 2]? = some (.int .i64 ps[k].sex) ∧ (pcells ps)[k * 4 + 3]? = some (.int .i64 ps[k].pay)
  | [], _, h => by simp at h
  | p :: ps, 0, _ => by simp [pcells, Per.cells]
  | p :: ps, k + 1, h => by
    have ih := pcells_at ps k (by simpa using h)
    have e : ∀ j, (pcells (p :: ps))[(k + 1) * 4 + j]? = (pcells ps)[k * 4 + j]? := fun j => by
      have : pcells (p :: ps) = p.cells ++ pcells ps := by simp [pcells]
      rw [this, List.getElem?_append_right (by simp [Per.cells]; omega)]
      congr 1; simp [Per.cells]; omega
    have e0 := e 0
    simp only [Nat.add_zero] at e0
    simp only [e, e0, List.getElem_cons_succ]
    exact ih

/-- Persons of one's own, from block B on. -/
def OwnP (w : World) (B : Nat) (v : Value) (ps : List Per) : Prop := w.ownsRow B 36 4 v ps.length (pcells ps)

theorem OwnP.pers {w : World} {B : Nat} {v : Value} {ps : List Per} (h : OwnP w B v ps) : ∃ a c, v = .slice a ps.length c ∧ ps.length ≤ c ∧ Pers w a ps := by
  obtain ⟨a, c, hv, hc, hx⟩ := owns_cells h
  refine ⟨a, c, hv, hc, fun k hk => ?_⟩
  obtain ⟨p0, p1, p2, p3⟩ := pcells_at ps k hk
  obtain ⟨g, rfl, _, c0, _⟩ := hx _ _ p0
  obtain ⟨g', e1, _, c1, _⟩ := hx _ _ p1
  obtain ⟨g', e2, _, c2, _⟩ := hx _ _ p2
  obtain ⟨g', e3, _, c3, _⟩ := hx _ _ p3
  cases e1; cases e2; cases e3
  exact ⟨g, 0, rfl, by simpa using c0, by simpa using c1, by simpa using c2, by simpa using c3⟩
theorem OwnP.ext {w w' : World} {B : Nat} {v : Value} {ps : List Per} (h : OwnP w B v ps) (e : Ext w w') : OwnP w' B v ps := owns_ext h e
theorem OwnP.keep {r : Nat} {w w' : World} {B : Nat} {v : Value} {ps : List Per} (h : OwnP w B v ps) (k : Keep r w w') (hr : r < B) : OwnP w' B v ps := owns_keep h k hr

def pcell (p : Per) (i : Nat) : Value := if i = 0 then .int .i64 p.area else if i = 1 then .int .i64 p.job else if i = 2 then .int .i64 p.sex else .int .i64 p.pay
theorem pcell0 (p : Per) : pcell p 0 = .int .i64 p.area := rfl
theorem pcell1 (p : Per) : pcell p 1 = .int .i64 p.job := rfl
theorem pcell2 (p : Per) : pcell p 2 = .int .i64 p.sex := rfl
theorem pcell3 (p : Per) : pcell p 3 = .int .i64 p.pay := rfl
theorem box_new (w : World) (p : Per) (t : TypeId) : (w.alloc (.cells #[.int .i64 p.area, .int .i64 p.job, .int .i64 p.sex, .int .i64 p.pay] t)).rowIs w.heap.size t 4 (pcell p) :=
  World.rowIs_alloc w #[.int .i64 p.area, .int .i64 p.job, .int .i64 p.sex, .int .i64 p.pay] t (pcell p) (fun i hi => by
      rcases (by simp at hi; omega : i = 0 ∨ i = 1 ∨ i = 2 ∨ i = 3) with e | e | e | e <;> subst e <;> rfl)
theorem new_cells4 (w : World) (p : Per) (t : TypeId) : ∀ (j : Nat) (u : Value), p.cells[j]? = some u → (w.alloc (.cells #[.int .i64 p.area, .int .i64 p.job, .int .i64 p.sex, .int .i64 p.pay] t)).cell? ((⟨w.heap.size, 0, none⟩ : Addr).add j) = some u := fun j u hu => by
  have hj : j < 4 := by
    have := (List.getElem?_eq_some_iff.1 hu).1
    simpa [Per.cells] using this
  rcases (by omega : j = 0 ∨ j = 1 ∨ j = 2 ∨ j = 3) with e | e | e | e <;> subst e <;> (simp [Per.cells] at hu; subst hu; simp [Addr.add, go_sem])
theorem one_cells4 (p : Per) : ∀ u ∈ p.cells, u.oneCell' = true := by simp [Per.cells, Value.oneCell']
theorem Try.dcInfoPer2 : (Try.prog.info? 36).map (fun i => (i.zero, i.size, i.bytes)) = some (some (.agg #[.int .i64 0, .int .i64 0, .int .i64 0, .int .i64 0]), 4, 32) := by kernel_rfl

theorem OwnP.addr {W : World} {B : Nat} {v : Value} {ps : List Per} (h : OwnP W B v ps) (hp : 0 < ps.length) : ∃ g c, v = .slice (some ⟨g, 0, none⟩) ps.length c ∧ B ≤ g ∧ g < W.heap.size := by
  obtain ⟨a, c, hv, hc, hx⟩ := owns_cells h
  obtain ⟨g, rfl, hg, hcell, _⟩ := hx _ _ (pcells_at ps 0 hp).1
  exact ⟨g, c, hv, hg, World.block_lt_of_cell? _ _ hcell⟩
theorem OwnP.set0 {W : World} {B g c : Nat} {ps : List Per} (h : OwnP W B (.slice (some ⟨g, 0, none⟩) ps.length c) ps) (hp : 0 < ps.length) (j : Nat) (hj : j < 4) (z : Int) :
    ∃ qs, qs.length = ps.length ∧ OwnP (W.setCell ⟨g, j, none⟩ (.int .i64 z)) B (.slice (some ⟨g, 0, none⟩) ps.length c) qs := by
  cases ps with
  | nil => simp at hp
  | cons p ps =>
    have h2 := (World.ownsRow.stored h j (.int .i64 z)).1
    rcases (by omega : j = 0 ∨ j = 1 ∨ j = 2 ∨ j = 3) with e | e | e | e <;> subst e
    · exact ⟨{ p with area := z } :: ps, rfl, h2⟩
    · exact ⟨{ p with job := z } :: ps, rfl, h2⟩
    · exact ⟨{ p with sex := z } :: ps, rfl, h2⟩
    · exact ⟨{ p with pay := z } :: ps, rfl, h2⟩

/-- A person is stored into its box. -/
def st4 (W : World) (g : Nat) (p : Per) : World :=
  (((W.setCell ⟨g, 0, none⟩ (.int .i64 p.area)).setCell ⟨g, 1, none⟩ (.int .i64 p.job)).setCell ⟨g, 2, none⟩ (.int .i64 p.sex)).setCell ⟨g, 3, none⟩ (.int .i64 p.pay)
theorem st4_row {W : World} {g : Nat} {t : TypeId} {f : Nat → Value} (p : Per) (h : W.rowIs g t 4 f) : (st4 W g p).rowIs g t 4 (pcell p) :=
  ((((h.set 0 _).set 1 _).set 2 _).set 3 _).congr fun i hi => by
    rcases (by omega : i = 0 ∨ i = 1 ∨ i = 2 ∨ i = 3) with e | e | e | e <;> subst e <;> rfl
theorem box_pay {W : World} {g : Nat} {t : TypeId} {p : Per} (h : W.rowIs g t 4 (pcell p)) (z : Int) : (W.setCell ⟨g, 3, none⟩ (.int .i64 z)).rowIs g t 4 (pcell ⟨p.area, p.job, p.sex, z⟩) :=
  (h.set 3 _).congr fun i hi => by
    rcases (by omega : i = 0 ∨ i = 1 ∨ i = 2 ∨ i = 3) with e | e | e | e <;> subst e <;> rfl
theorem st4_keep {r : Nat} {w W : World} {g : Nat} (p : Per) (k : Keep r w W) (hg : w.heap.size ≤ g) : Keep r w (st4 W g p) :=
  (((k.setNew (p := ⟨g, 0, none⟩) hg _).setNew (p := ⟨g, 1, none⟩) hg _).setNew (p := ⟨g, 2, none⟩) hg _).setNew (p := ⟨g, 3, none⟩) hg _
theorem st4_own {W : World} {B g : Nat} {v : Value} {ps : List Per} (p : Per) (h : OwnP W B v ps) (hg : ∀ b, v.ownBlock = some b → b ≠ g) : OwnP (st4 W g p) B v ps :=
  owns_other (owns_other (owns_other (owns_other h ⟨g, 0, none⟩ _ hg) ⟨g, 1, none⟩ _ hg) ⟨g, 2, none⟩ _ hg) ⟨g, 3, none⟩ _ hg
theorem st4_rd {r q : Nat} {W : World} {g : Nat} (p : Per) (h : Rd W r q) (hg : r < g) : Rd (st4 W g p) r q :=
  (((h.setOther ⟨g, 0, none⟩ hg _).setOther ⟨g, 1, none⟩ hg _).setOther ⟨g, 2, none⟩ hg _).setOther ⟨g, 3, none⟩ hg _

/-- Drawn people. -/
def PeopleOut (r p m : Nat) (w : World) (e : Ending) (w' : World) : Prop :=
  ∃ v ps, e = .returned v ∧ ps.length ≤ m ∧ OwnP w' w.heap.size v ps ∧ (∃ p', p' ≤ p + 4 + 8 * m ∧ Rd w' r p') ∧ Keep r w w'

set_option maxHeartbeats 1000000 in
theorem l91People_any (r p m : Nat) (w : World) (h : Rd w r p) (hp : p ≤ 800000) (hm : m ≤ 40) :
    Calls Try.prog 30 #[.pointer (some ⟨r, 0, none⟩), .int .i64 m] w (PeopleOut r p m w) := by
  have hr := h.lt
  obtain ⟨i0, hi, hz0, hz1, hz2⟩ := info_parts Try.dcInfoPer2
  have HI := Lib.hid hi; have HZ0 := Lib.hid hz0; have HZ1 := Lib.hid hz1; have HZ2 := Lib.hid hz2
  clear hi hz0 hz1 hz2
  go_enter Try.func30, Try.ntmps30
  go_wp2_with fail
  refine (pick_any r p _ _ (h.ext ((Ext.refl _).alloc _)) (by omega) (by omega)).mono ?_
  rintro e w1 ⟨n, hn0, hn1, rfl, R1, k1⟩
  have hnm : n ≤ m := by omega
  have o1 : OwnP w1 w.heap.size (.slice (some ⟨w.heap.size, 0, none⟩) 0 0) [] := owns_keep (World.ownsRow_made w #[] 0 (Nat.le_refl _) (by decide) rfl) k1 hr
  have K1 := ((Keep.refl r w).alloc (.cells #[] 36)).trans k1
  clear k1 hn1
  go_wp2
  go_loopg [5, 7] n.toNat (fun g v i wr => ∃ (ps : List Per) (q : Nat), (ps.length : Int) ≤ n ∧ g = n.toNat - ps.length ∧ i = .int .i64 ps.length ∧ OwnP wr w.heap.size v ps ∧ q ≤ p + 1 + 8 * ps.length ∧ Rd wr r q ∧ Keep r w wr)
  case atStart => exact ⟨[], p + 1, by simpa using hn0, rfl, rfl, o1, by simp, R1, K1⟩
  case round =>
    clear o1 R1 K1
    obtain ⟨ps, q, hk, rfl, rfl, own, hq, R, K⟩ := hrel
    by_cases hlt : (ps.length : Int) < n
    · have hblk := own.lt
      obtain ⟨a, c, rfl, hc, hpers⟩ := own.pers
      have HB := Lib.hid hblk; clear hblk
      have HP := Lib.hid hpers; clear hpers
      have HO := Lib.hid own; clear own
      go_wp2_with fail
      refine (l91Person_any r q _ R R.lt (by omega)).mono ?_
      rintro e w2 ⟨pq, rfl, R2, k2⟩
      unfold Per.val
      have hwr : wr.heap.size ≤ w2.heap.size := k2.size
      go_upto_region 7 with fail
      obtain ⟨W0, hW0⟩ : ∃ W, (w2.alloc (.cells #[.int .i64 pq.area, .int .i64 pq.job, .int .i64 pq.sex, .int .i64 pq.pay] 36)) = W := ⟨_, rfl⟩
      have bx : W0.rowIs w2.heap.size 36 4 (pcell pq) := hW0 ▸ box_new w2 pq _
      have R0 : Rd W0 r (q + 5) := hW0 ▸ R2.ext ((Ext.refl _).alloc _)
      have K0 : Keep r wr W0 := hW0 ▸ k2.alloc _
      rw [hW0]
      clear hW0 k2
      go_cut [28] (fun s wx => ∃ (b : Bool) (q' : Nat), s = .bool b ∧ (b = true → 0 < ps.length) ∧ q' ≤ q + 6 ∧ Rd wx r q' ∧ Keep r W0 wx)
      case first =>
        by_cases hk0 : 0 < ps.length
        · have g0 : (0 : Int) < (ps.length : Int) := by omega
          go_wp2_with fail
          refine (pick_any r (q + 5) 3 _ R0 (by omega) (by omega)).mono ?_
          rintro e w3 ⟨x, _, _, rfl, R3, k3⟩
          go_wp2
          go_meet
          exact ⟨_, q + 6, rfl, fun _ => hk0, Nat.le_refl _, R3, k3⟩
        · have g0 : ¬ (0 : Int) < (ps.length : Int) := by omega
          have g1 : decide (0 < ps.length) = false := by simpa using hk0
          go_wp2
          go_meet
          exact ⟨false, q + 5, rfl, fun h => by simp at h, by omega, R0, Keep.refl _ _⟩
      case rest =>
        obtain ⟨b, q1, rfl, hb, hq1, R3, k3⟩ := hcut
        have HBB := Lib.hid hb; clear hb
        have hrb : r < w2.heap.size := R2.lt
        have bx3 : wc.rowIs w2.heap.size 36 4 (pcell pq) := bx.of_block (k3.block _ bx.lt (by omega))
        have K3 := K0.trans k3
        clear bx k3 R0
        go_upto_if 28 with fail
        have own3 : OwnP wc w.heap.size (.slice a ps.length c) ps := HO.out.keep K3 hr
        have hne : ∀ g, (Value.slice a ps.length c).ownBlock = some g → g ≠ w2.heap.size := fun g hg => by have h1 := (HB.out g hg).2; have := hwr; omega
        have KW := K.trans K3
        have HNE := Lib.hid hne; clear hne
        go_cut [] (fun wx => ∃ (pp : Per) (q' : Nat), q' ≤ q1 + 2 ∧ Rd wx r q' ∧ Keep r w wx ∧ OwnP wx w.heap.size (.slice a ps.length c) ps ∧ wx.rowIs w2.heap.size 36 4 (pcell pp))
        case first =>
          cases b
          · go_wp2
            go_meet
            exact ⟨pq, q1, by omega, R3, KW, own3, bx3⟩
          · have hpos := HBB.out rfl
            go_wp2_with fail
            refine (pick_any r q1 _ _ R3 (by omega) (by omega)).mono ?_
            rintro e w4 ⟨x, hx0, hx1, rfl, R4, k4⟩
            obtain ⟨X, rfl⟩ := Int.eq_ofNat_of_zero_le hx0
            have hX : X < ps.length := by omega
            have hXz : (X : Int) < (ps.length : Int) := by omega
            have own4 := own3.keep k4 hr
            obtain ⟨a', c', e4, _, pers4⟩ := own4.pers
            cases e4
            have bx4 := bx3.of_block (k4.block _ bx3.lt (by omega))
            have KW4 := KW.trans k4
            obtain ⟨b, off, rfl, h0, h1, h2, h3⟩ := pers4 X hX
            have c0 := bx4.cell (i := 0) (by omega)
            have c1 := bx4.cell (i := 1) (by omega)
            have c2 := bx4.cell (i := 2) (by omega)
            have c3 := bx4.cell (i := 3) (by omega)
            have f0 := bx4.frozen 0
            have f1 := bx4.frozen 1
            have f2 := bx4.frozen 2
            have f3 := bx4.frozen 3
            clear pers4 own3 bx3 KW R3 k4 hx1 hx0
            go_upto_region 9 with fail
            obtain ⟨W5, hW5⟩ : ∃ W, st4 w4 w2.heap.size ps[X] = W := ⟨_, rfl⟩
            have bx5 : W5.rowIs w2.heap.size 36 4 (pcell ps[X]) := hW5 ▸ st4_row _ bx4
            have KW5 : Keep r w W5 := hW5 ▸ st4_keep _ KW4 (Nat.le_trans K.size hwr)
            have own5 : OwnP W5 w.heap.size (.slice (some ⟨b, off, none⟩) ps.length c) ps := hW5 ▸ st4_own _ own4 HNE.out
            have R5 : Rd W5 r (q1 + 1) := hW5 ▸ st4_rd _ R4 hrb
            unfold st4 at hW5
            rw [hW5]
            clear hW5 bx4 KW4 own4 R4 c0 c1 c2 c3 f0 f1 f2 f3 h0 h1 h2 h3
            have c3 := bx5.cell (i := 3) (by omega)
            rw [pcell3] at c3
            have f3 := bx5.frozen 3
            go_region_with (go_at_call 31; refine (pick_any r (q1 + 1) 3 _ R5.drew (by omega) (by omega)).mono ?_; rintro e w6 ⟨y, hy0, hy1, rfl, R6, k6⟩; have d3 := k6.cell (p := ⟨w2.heap.size, 3, none⟩) (Nat.ne_of_gt hrb) c3; have e3 := (k6.frozen (p := ⟨w2.heap.size, 3, none⟩) (Nat.ne_of_gt hrb) c3).trans f3)
            all_goals
              go_wp2
              go_meet
              exact ⟨_, q1 + 2, Nat.le_refl _, R6.setOther ⟨w2.heap.size, 3, none⟩ hrb _, (KW5.drew.trans k6).setNew (p := ⟨w2.heap.size, 3, none⟩) (Nat.le_trans K.size hwr) _, owns_other ((own5.ext ((Ext.refl _).drew)).keep k6 hr) ⟨w2.heap.size, 3, none⟩ _ HNE.out,
                box_pay (bx5.drew.of_block (k6.block _ bx5.lt (Nat.ne_of_gt hrb))) _⟩
        case rest =>
          clear own3 bx3 R3 KW K3 K0
          obtain ⟨pp, q2, hq2, R7, KW7, own7, bx7⟩ := hcut
          have c0 := bx7.cell (i := 0) (by omega)
          have c1 := bx7.cell (i := 1) (by omega)
          have c2 := bx7.cell (i := 2) (by omega)
          have c3 := bx7.cell (i := 3) (by omega)
          rw [pcell0] at c0
          rw [pcell1] at c1
          rw [pcell2] at c2
          rw [pcell3] at c3
          have hlt7 := own7.lt
          have HL7 := Lib.hid hlt7; clear hlt7
          go_wp2_with (at_builtin; refine wpList_append_own _ rfl _ _ 23 rfl w.heap.size 36 i0 (.agg #[.int .i64 0, .int .i64 0, .int .i64 0, .int .i64 0]) 4 32 Try.underlying23 HI.out HZ0.out HZ1.out HZ2.out rfl (by decide) _ _ _ rfl (World.ownsRow.alloc own7 _) ⟨wc.heap.size, 0, none⟩ 1 1 pp.cells rfl rfl (new_cells4 _ _ _) (one_cells4 _) ?c3 ?c4 ?c5 ?_)
          case c3 => unfold maxLen; omega
          case c4 => omega
          case c5 => have := KW7.size; simp; omega
          intro v' w8 hown' hgrow _
          have hnew : ∀ k, (Value.slice a ps.length c).ownBlock = some k → w.heap.size ≤ k := fun k hk => (HL7.out k hk).1
          have own8 : OwnP w8 w.heap.size v' (ps ++ [pp]) := by
            unfold OwnP; rw [pcells_append, List.length_append]
            simpa [pcells] using hown'
          have R8 : Rd w8 r q2 := (R7.ext ((Ext.refl _).alloc _)).grown hgrow (fun k hk => Nat.lt_of_lt_of_le hr (hnew k hk))
          have K8 : Keep r w w8 := (KW7.alloc _).grownNew hgrow hnew
          clear hown' hgrow own7 R7 KW7 HL7
          go_wp2_with fail
          go_roundg (n.toNat - (ps.length + 1))
          case measure => omega
          case rel => exact ⟨ps ++ [pp], q2, by simp; omega, by simp, by simp, own8, by simp; omega, R8, K8⟩
    · have hge : ¬ (ps.length : Int) < n := hlt
      by_cases hpos : 0 < n
      · have hps : 0 < ps.length := by omega
        obtain ⟨g, c, rfl, hg, hgl⟩ := own.addr hps
        have hz : (0 : Int) < (ps.length : Int) := by omega
        go_wp2_with fail
        refine (pick_any r q 40 _ R (by omega) (by omega)).mono ?_
        rintro e w4 ⟨y, hy0, hy1, rfl, R4, k4⟩
        have own4 := own.keep k4 hr
        have K4 := K.trans k4
        have hrg : r < g := by omega
        obtain ⟨c0, c1, c2, c3⟩ := pcells_at ps 0 hps
        simp only [Nat.zero_mul, Nat.zero_add] at c0 c1 c2 c3
        rw [← World.ownsRow.cellAt own4 _ (by omega)] at c0 c1 c2 c3
        have f0 := World.ownsRow.frozenAt own4 0
        have f2 := World.ownsRow.frozenAt own4 2
        have f3 := World.ownsRow.frozenAt own4 3
        by_cases y0 : y = 0
        · subst y0
          go_wp2_with fail
          refine (pick_any r (q + 1) 2 _ (R4.ext ((Ext.refl _).alloc _)) (by omega) (by omega)).mono ?_
          rintro e w5 ⟨z, hz0, hz1, rfl, R5, k5⟩
          have own5 := (own4.ext ((Ext.refl _).alloc _)).keep k5 hr
          have K5 := (K4.alloc _).trans k5
          have hn4 : w4.heap.size ≠ r := Nat.ne_of_gt R4.lt
          have l0 := k5.cell (p := ⟨w4.heap.size, 0, none⟩) (v := .int .i64 (-1)) hn4 (by simp [go_sem])
          have l1 := k5.cell (p := ⟨w4.heap.size, 1, none⟩) (v := .int .i64 4) hn4 (by simp [go_sem])
          clear c0 c1 c2 c3 f0 f2 f3
          obtain ⟨c0, _, _, _⟩ := pcells_at ps 0 hps
          simp only [Nat.zero_mul] at c0
          rw [← World.ownsRow.cellAt own5 _ (by omega)] at c0
          have f0 := World.ownsRow.frozenAt own5 0
          have fin : ∀ z : Int, PeopleOut r p m w (.returned (.slice (some ⟨g, 0, none⟩) ps.length c)) (w5.setCell ⟨g, 0, none⟩ (.int .i64 z)) := fun z => by
            obtain ⟨qs, hl, ho⟩ := own5.set0 hps 0 (by omega) z
            rw [← hl] at ho ⊢
            exact ⟨_, qs, rfl, by omega, ho, ⟨q + 2, by omega, R5.setOther ⟨g, 0, none⟩ hrg _⟩, K5.setNew (p := ⟨g, 0, none⟩) hg _⟩
          have FIN := Lib.hid fin; clear fin
          rcases (by omega : z = 0 ∨ z = 1) with e | e <;> subst e
          · go_wp2_with fail
            go_ret
            exact FIN.out _
          · go_wp2_with fail
            go_ret
            exact FIN.out _
        · have y0b : (y == 0) = false := by simpa using y0
          by_cases y1 : y = 1
          · subst y1
            go_wp2_with fail
            go_ret
            obtain ⟨qs, hl, ho⟩ := own4.set0 hps 3 (by omega) 1000
            rw [← hl] at ho ⊢
            exact ⟨_, qs, rfl, by omega, ho, ⟨q + 1, by omega, R4.setOther ⟨g, 3, none⟩ hrg _⟩, K4.setNew (p := ⟨g, 3, none⟩) hg _⟩
          · have y1b : (y == 1) = false := by simpa using y1
            by_cases y2 : y = 2
            · subst y2
              go_wp2_with fail
              go_ret
              obtain ⟨qs, hl, ho⟩ := own4.set0 hps 2 (by omega) 2
              rw [← hl] at ho ⊢
              exact ⟨_, qs, rfl, by omega, ho, ⟨q + 1, by omega, R4.setOther ⟨g, 2, none⟩ hrg _⟩, K4.setNew (p := ⟨g, 2, none⟩) hg _⟩
            · have y2b : (y == 2) = false := by simpa using y2
              go_wp2_with fail
              go_ret
              exact ⟨_, ps, rfl, by omega, own4, ⟨q + 1, by omega, R4⟩, K4⟩
      · have hnp : ¬ (0 : Int) < n := hpos
        go_wp2_with fail
        go_ret
        exact ⟨_, ps, rfl, by omega, own, ⟨q, by omega, R⟩, K⟩
end Go.Proofs.Ytkldaapcpnpdfaa
