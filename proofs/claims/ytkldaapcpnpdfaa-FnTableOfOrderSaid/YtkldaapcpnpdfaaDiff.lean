/- The program's difference of two tables. -/
import Derived.Test.YtkldaapcpnpdfaaCellsLaw
import Derived.Test.YtkldaapcpnpdfaaRoundKit
import Derived.Test.YtkldaapcpnpdfaaShape
import Derived.Test.YtkldaapcpnpdfaaTabCopyI
namespace Go.Proofs.Ytkldaapcpnpdfaa
open Go.RowKit Go.DC Go.Shelf
attribute [local go_sem] Oper.semAt_some
/-- How often a cell is among some. -/
def cnt {h m : Nat} (pre : List (Cell h m)) (i j : Nat) : Nat := (pre.filter fun x => x.1.1 == i && x.1.2 == j).length
theorem cnt_nil {h m : Nat} (i j : Nat) : cnt ([] : List (Cell h m)) i j = 0 := rfl
theorem cnt_append {h m : Nat} (p q : List (Cell h m)) (i j : Nat) : cnt (p ++ q) i j = cnt p i j + cnt q i j := by simp [cnt]
theorem cnt_one {h m : Nat} (x : Cell h m) (i j : Nat) : cnt [x] i j = if i = x.1.1 ∧ j = x.1.2 then 1 else 0 := by
  unfold cnt
  by_cases e : i = x.1.1 ∧ j = x.1.2
  · rw [if_pos e, List.filter_cons_of_pos (by simp [e.1, e.2])]; rfl
  · rw [if_neg e, List.filter_cons_of_neg (by simp; intro h1 h2; exact e ⟨h1.symm, h2.symm⟩)]; rfl
theorem cnt_le {h m : Nat} (p : List (Cell h m)) (i j : Nat) : cnt p i j ≤ p.length := List.length_filter_le _ _
theorem cnt_row {h m k : Nat} (hk : k < h) (i j : Nat) : ∀ (j' : Nat) (hj : j' ≤ m), cnt (rowCells h m k j' hk hj) i j = if i = k ∧ j < j' then 1 else 0
  | 0, hj => by rw [rowCells_zero, cnt_nil, if_neg (by omega)]
  | j' + 1, hj => by
    rw [rowCells_succ, cnt_append, cnt_row hk i j j' (by omega), cnt_one]
    simp only
    repeat' split
    all_goals omega
theorem cnt_first {h m : Nat} (i j : Nat) (hj : j < m) : ∀ (k : Nat) (hk : k ≤ h), cnt (firstCells h m k hk) i j = if i < k then 1 else 0
  | 0, _ => by rw [firstCells, cnt_nil, if_neg (by omega)]
  | k + 1, hk => by
    rw [firstCells, cnt_append, cnt_first i j hj k (by omega), cnt_row]
    repeat' split
    all_goals omega
theorem cnt_all {h m i j : Nat} (hi : i < h) (hj : j < m) : cnt (allCells h m) i j = 1 := by
  unfold allCells; rw [cnt_first i j hj, if_pos hi]

theorem tabOk_rect {t : List (List Int)} (h : tabOk t = true) : Rect t t.length (wide t) ∧ 1 ≤ t.length ∧ t.length ≤ 4 ∧ 1 ≤ wide t ∧ wide t ≤ 4 ∧ ∀ i j, i < t.length → j < wide t → 0 ≤ get 0 t i j ∧ get 0 t i j ≤ 99 := by
  unfold tabOk at h
  simp only [Bool.and_eq_true, decide_eq_true_eq, List.all_eq_true] at h
  obtain ⟨⟨⟨⟨h1, h2⟩, h3⟩, h4⟩, h5⟩ := h
  have hr : ∀ k (hk : k < t.length), t[k].length = wide t ∧ ∀ z ∈ t[k], 0 ≤ z ∧ z ≤ 99 := fun k hk => by
    have := h5 t[k] (List.getElem_mem hk)
    simp only [rowOk, Bool.and_eq_true, beq_iff_eq, List.all_eq_true, cellOk, decide_eq_true_eq] at this
    exact this
  refine ⟨⟨rfl, fun k hk => (hr k hk).1⟩, h1, h2, h3, h4, fun i j hi hj => ?_⟩
  have hj' : j < t[i].length := by rw [(hr i hi).1]; exact hj
  rw [get_cell hi hj']
  exact (hr i hi).2 _ (List.getElem_mem hj')

/-- The first table minus the second one. -/
def subT (a b : List (List Int)) : List (List Int) := tabOf a.length (wide a) (fun i j => get 0 a i j - get 0 b i j)
def diffOk (a b : List (List Int)) : Bool := tabOk a && tabOk b && decide (shape a = shape b) && tabOk (subT a b)
def diffT (a b : List (List Int)) : List (List Int) := if diffOk a b then subT a b else []
theorem diffT_len (a b : List (List Int)) : (diffT a b).length ≤ 4 := by
  unfold diffT
  split
  · rename_i h
    unfold diffOk at h
    simp only [Bool.and_eq_true] at h
    unfold subT
    rw [tabOf_length]
    exact (tabOk_rect h.1.1.1).2.2.1
  · simp
/-- What a difference hands back. -/
def DiffOut (a b : List (List Int)) (w : World) (e : Ending) (w' : World) : Prop :=
  ∃ v vs, e = .returned (.tuple #[v, .bool (diffOk a b)]) ∧ OwnI w' w.heap.size v vs (diffT a b) ∧ Ext w w'
theorem own_nil (w : World) (B : Nat) : OwnI w B (.slice none 0 0) [] [] :=
  ⟨rfl, World.ownsRow_nil _ _ _ _, fun k hk => by simp at hk, fun k l hk => by simp at hk, fun k hk => by simp at hk⟩
theorem shape_rect {a b : List (List Int)} (h : tabOk a = true) (e : shape a = shape b) : Rect b a.length (wide a) := by
  have hl := shape_len e
  refine ⟨hl.symm, fun k hk => ?_⟩
  have hk' : k < a.length := by omega
  have e1 : (shape a)[k]? = some a[k].length := by simp [shape, hk']
  have e2 : (shape b)[k]? = some b[k].length := by simp [shape, hk]
  rw [e, e2] at e1
  rw [Option.some.inj e1]
  exact (tabOk_rect h).1.2 k hk'

set_option maxRecDepth 100000 in
set_option maxHeartbeats 4000000 in
theorem DiffTable_any (a b : Option Addr) (c d : Nat) (s t : List (List Int)) (w : World) (hs : IRows w a s) (ht : IRows w b t) (hm : s.length ≤ 9223372036854775807) (hm2 : t.length ≤ 9223372036854775807) :
    Calls Try.prog 27 #[.slice a s.length c, .slice b t.length d] w (DiffOut s t w) := by
  have HS := Lib.hid hs; clear hs
  have HT := Lib.hid ht; clear ht
  refine (callsIn_wide (n := 9)).1 ?_
  refine callsIn_of_wp_marks Try.func27 rfl trivial ?_ rfl
  simp only [Try.ntmps27, List.size_toArray, List.length_cons, List.length_nil, Nat.reduceAdd, Nat.reduceSub, Array.replicate_succ, Array.replicate_zero, List.push_toArray, List.append_toArray, List.nil_append, List.cons_append]
  gi_wp2_with fail
  have e0 : Ext w (w.alloc (.cells #[.slice b t.length d] 38)) := (Ext.refl w).alloc _
  have bx0 := Box.new w 38 (.slice b t.length d)
  obtain ⟨W0, hW0⟩ : ∃ W0, w.alloc (.cells #[.slice b t.length d] 38) = W0 := ⟨_, rfl⟩
  rw [hW0] at e0 bx0 ⊢
  clear hW0
  refine ⟨trivial, (callsIn_wide.2 (TableValid_any _ _ s _ (HS.out.ext e0) hm)).mono ?_⟩
  rintro e w' ⟨rfl, rfl⟩
  have hc0 := bx0.cell
  cases o1 : tabOk s
  · have hd : diffOk s t = false := by simp [diffOk, o1]
    have HD := Lib.hid hd; clear hd o1
    gi_wp2_with fail
    refine ⟨trivial, ?_⟩
    gi_wp2_with fail
    refine ⟨trivial, ?_⟩
    gi_wp2_with fail
    exact leave2 rfl ⟨_, [], by simp only [HD.out]; rfl, by unfold diffT; rw [HD.out]; exact own_nil _ _, e0⟩
  have O1 := Lib.hid o1; clear o1
  gi_wp2_with fail
  refine ⟨trivial, (callsIn_wide.2 (TableValid_any _ _ t _ (HT.out.ext e0) hm2)).mono ?_⟩
  rintro e w' ⟨rfl, rfl⟩
  cases o2 : tabOk t
  · have hd : diffOk s t = false := by simp [diffOk, o2]
    have HD := Lib.hid hd; clear hd o2
    gi_wp2_with fail
    refine ⟨trivial, ?_⟩
    gi_wp2_with fail
    exact leave2 rfl ⟨_, [], by simp only [HD.out]; rfl, by unfold diffT; rw [HD.out]; exact own_nil _ _, e0⟩
  have O2 := Lib.hid o2; clear o2
  gi_wp2_with fail
  refine ⟨trivial, (callsIn_wide.2 (sameShape_any _ _ _ _ s t _ (HS.out.ext e0) (HT.out.ext e0) hm hm2)).mono ?_⟩
  rintro e w' ⟨rfl, rfl⟩
  by_cases o3 : shape s = shape t
  · have hd : decide (shape s = shape t) = true := by simpa using o3
    have O3 := Lib.hid o3; clear o3
    rw [hd]
    clear hd
    obtain ⟨r1, hs1, hs4, hw1, hw4, hcs⟩ := tabOk_rect O1.out
    have r2 := shape_rect O1.out O3.out
    obtain ⟨r2', _, _, _, _, hct⟩ := tabOk_rect O2.out
    have R1 := Lib.hid r1; have R2 := Lib.hid r2; have CS := Lib.hid hcs; have CT := Lib.hid hct; have R2' := Lib.hid r2'
    clear r1 r2 hcs hct r2'
    gi_wp2_with fail
    refine ⟨trivial, (callsIn_wide.2 (copyTableI_any _ _ s _ (HS.out.ext e0) (by omega) (fun k hk => by rw [R1.out.2 k hk]; omega))).mono ?_⟩
    rintro e w1 ⟨v, vs, rfl, own1, e1⟩
    obtain ⟨av, cv, rfl, _, _, _⟩ := own1.rows
    have x1 := e1.alloc (.cells #[.slice av s.length cv] 38)
    have hc1 := (bx0.ext x1).cell
    gi_wp2_with fail
    refine ⟨trivial, (cellsOf_in Fence.wide _ (wide_fn _) rfl _ _ _ _).mono ?_⟩
    rintro e w2 ⟨rfl, rfl⟩
    have bX := (Box.new w1 38 (.slice av s.length cv)).ext ((Ext.refl _).alloc (.cells #[.slice b t.length d] 38))
    have bI := Box.new (w1.alloc (.cells #[.slice av s.length cv] 38)) 38 (.slice b t.length d)
    have x2 := x1.alloc (.cells #[.slice b t.length d] 38)
    have bB := bx0.ext x2
    have own2 := (own1.ext (((Ext.refl _).alloc (.cells #[.slice av s.length cv] 38)).alloc (.cells #[.slice b t.length d] 38))).base e0.size
    have hl01 : w.heap.size < W0.heap.size := bx0.lt
    have hl12 : W0.heap.size ≤ w1.heap.size := e1.size
    have own3 : OwnI ((w1.alloc (.cells #[.slice av s.length cv] 38)).alloc (.cells #[.slice b t.length d] 38)) W0.heap.size (.slice av s.length cv) vs s := own1.ext (((Ext.refl _).alloc (.cells #[.slice av s.length cv] 38)).alloc (.cells #[.slice b t.length d] 38))
    have hout : ∀ g, (Value.slice av s.length cv).ownBlock = some g → g < w1.heap.size := fun g hg => (own1.outer_lt hg).2
    have hinn : ∀ (k : Nat) (hk : k < vs.length) (g : Nat), vs[k].ownBlock = some g → W0.heap.size ≤ g ∧ g < w1.heap.size := fun k hk g hg => own1.inner_lt hk hg
    have HI := Lib.hid hinn
    simp only [World.size_alloc] at bI
    obtain ⟨W2, hW2⟩ : ∃ W2, (w1.alloc (.cells #[.slice av s.length cv] 38)).alloc (.cells #[.slice b t.length d] 38) = W2 := ⟨_, rfl⟩
    rw [hW2] at bX bI x2 bB own2 own3 ⊢
    have E2 : Ext w W2 := e0.trans x2
    have hcI := bI.cell
    have own4 : OwnI W2 W0.heap.size (.slice av s.length cv) vs (tabOf s.length (wide s) (fun i j => get 0 s i j - (cnt ([] : List (Cell s.length (wide s))) i j : Int) * get 0 t i j)) := by
      rw [tabOf_congr (f := get 0 s) (fun i j _ _ => by simp [cnt_nil]), ← R1.out.eq 0]; exact own3
    simp only [World.size_alloc]
    clear hW2 hc1 x1 own1 own2 hout hinn own3
    gi_wp2_with fail
    refine wpIn_cells (by omega) w (w1.heap.size + 1) s.length (wide s) b d t HT.out R2.out (by omega) (by omega) rfl E2 hcI rfl
      (fun pre W => Box W w.heap.size 38 (.slice b t.length d) ∧ Box W w1.heap.size 38 (.slice av s.length cv) ∧ OwnI W W0.heap.size (.slice av s.length cv) vs (tabOf s.length (wide s) (fun i j => get 0 s i j - cnt pre i j * get 0 t i j)))
      (fun _ _ _ => False) (fun pre A B hs k => ⟨hs.1.cel k, hs.2.1.cel k, hs.2.2.cel k⟩) (fun _ _ _ _ hs _ => hs.elim)
      ⟨bB, bX, own4⟩
      ?round ?done ?stop
    case round =>
      intro l x W K hK
      have HK := Lib.hid hK; clear hK
      gi_wp2_with fail
      refine HK.out _ ?_
      clear HK K
      rintro l' pre W' ⟨b1, b2, ow⟩ hE hlt
      obtain ⟨⟨i, j⟩, hi, hj⟩ := x
      dsimp only at hi hj ⊢
      obtain ⟨o, co, g, ck, ev, ho, co1, hg, hgo, hvs, cg, fg, _⟩ := ow.atC hi hj
      cases ev
      obtain ⟨tb, tf, tb2, tf2, tk, rfl, ct1, ct2⟩ := (HT.out.ext hE).atC 0 R2.out hi hj
      have hy := CT.out i j (by rw [R2.out.1]; exact hi) (by rw [← R2'.out.2 i (by rw [R2.out.1]; exact hi), R2.out.2 i (by rw [R2.out.1]; exact hi)]; exact hj)
      have hx := CS.out i j hi hj
      have hn : cnt pre i j < 16 := by
        have h1 := cnt_le pre i j
        have h2 : s.length * wide s ≤ 4 * 4 := Nat.mul_le_mul (by omega) (by omega)
        omega
      have hset : ∀ z : Int, z = get 0 s i j - cnt pre i j * get 0 t i j → OwnI (W'.setCell ⟨g, j, none⟩ (encI (z - get 0 t i j))) W0.heap.size (.slice (some ⟨o, 0, none⟩) s.length cv) vs
          (tabOf s.length (wide s) (fun i' j' => get 0 s i' j' - cnt (pre ++ [⟨(i, j), hi, hj⟩]) i' j' * get 0 t i' j')) := fun z hz => by
        have := ow.setC (j := j) hi hvs (z - get 0 t i j)
        rw [tabOf_congr (f := fun i' j' => get 0 s i' j' - cnt (pre ++ [⟨(i, j), hi, hj⟩]) i' j' * get 0 t i' j') (fun i' j' _ _ => ?_)] at this
        · exact this
        · unfold upd
          rw [cnt_append, cnt_one]
          split
          · rename_i e; obtain ⟨rfl, rfl⟩ := e; rw [hz, Int.natCast_add, Int.add_mul]; simp; omega
          · simp
      obtain ⟨y, hyv⟩ : ∃ y, get 0 t i j = y := ⟨_, rfl⟩
      obtain ⟨z, hzv⟩ : ∃ z, get 0 s i j - cnt pre i j * get 0 t i j = z := ⟨_, rfl⟩
      have hzb : -2000 ≤ z ∧ z ≤ 99 := by
        rw [← hzv]
        have h1 : (cnt pre i j : Int) * get 0 t i j ≤ 16 * 99 := Int.mul_le_mul (by omega) hy.2 hy.1 (by omega)
        have h2 : 0 ≤ (cnt pre i j : Int) * get 0 t i j := Int.mul_nonneg (by omega) hy.1
        omega
      have HSET := Lib.hid (hset z hzv.symm)
      rw [hzv] at cg
      rw [hyv] at ct2 hy
      rw [hyv] at HSET
      obtain ⟨hy0, hy1⟩ := hy
      obtain ⟨hzb0, hzb1⟩ := hzb
      have cb1 := b1.cell
      have cb2 := b2.cell
      have hib : (i : Int) < (s.length : Int) := by omega
      have hit : (i : Int) < (t.length : Int) := by have := R2.out.1; omega
      have hjb : (j : Int) < (wide s : Int) := by omega
      have hgw : w1.heap.size ≠ g := by
        obtain ⟨hk, e⟩ := List.getElem?_eq_some_iff.1 hvs
        have := (HI.out i hk g (by rw [e]; rfl)).2
        omega
      unfold encI at cg ct2
      have HB1 := Lib.hid b1; have HB2 := Lib.hid b2; have HOW := Lib.hid ow
      clear b1 b2 ow hset hzv hyv hx hn
      gi_wp2_with fail
      refine wpR_still_tail 16 (by kernel_rfl) (by kernel_rfl) (by kernel_rfl) ?_
      simp only [List.take_succ_cons, List.take_zero, List.drop_succ_cons, List.drop_zero]
      repeat still_step
      refine wpStill_nil ?_
      go_wp2_with fail
      refine noOut_normal ?_
      gi_wp2_with fail
      have hst : Stp w.heap.size W2.heap.size W' ((W'.setCell ⟨g, j, none⟩ (.int .i64 (z - y))).drew) := ((Stp.refl _ _ W').setCell (p := ⟨g, j, none⟩) (by show w.heap.size ≤ g; omega) _).drew
      refine ⟨hst.from_, hst.below, ⟨?_, ?_, ?_⟩, (hE.setCell (p := ⟨g, j, none⟩) (by show w.heap.size ≤ g; omega) _).drew⟩
      · exact HB1.out.other ⟨g, j, none⟩ _ (by show g ≠ w.heap.size; omega)
      · exact HB2.out.other ⟨g, j, none⟩ _ (by show g ≠ w1.heap.size; omega)
      · exact HSET.out.ext ((Ext.refl _).drew)
    case done =>
      rintro D W hD ⟨b1, b2, ow⟩ hE hK
      rw [tabOf_congr (f := fun i j => get 0 s i j - get 0 t i j) (fun i j hi hj => by rw [cnt_all hi hj]; simp)] at ow
      obtain ⟨av', cv', ev, _, hrows, _⟩ := ow.rows
      rw [tabOf_length] at ev
      cases ev
      have cb2 := b2.cell
      have hlen : (tabOf s.length (wide s) (fun i j => get 0 s i j - get 0 t i j)).length = s.length := tabOf_length _ _ _
      have tv := TableValid_any av cv (tabOf s.length (wide s) (fun i j => get 0 s i j - get 0 t i j)) W hrows (by rw [hlen]; omega)
      rw [hlen] at tv
      have TV := Lib.hid tv
      have OW := Lib.hid ow
      have hdo : diffOk s t = tabOk (subT s t) := by simp [diffOk, O1.out, O2.out, O3.out]
      have HDO := Lib.hid hdo
      clear tv hrows ow hdo
      gi_wp2_with fail
      refine ⟨trivial, (callsIn_wide.2 TV.out).mono ?_⟩
      rintro e w' ⟨rfl, rfl⟩
      have hDw : w.heap.size ≤ D := by have := E2.size; omega
      cases ok : tabOk (tabOf s.length (wide s) (fun i j => get 0 s i j - get 0 t i j))
      · have hd : diffOk s t = false := by rw [HDO.out]; exact ok
        have HD := Lib.hid hd; clear hd ok
        gi_wp2_with fail
        exact leaveD2 hK rfl ⟨_, [], by simp only [HD.out]; rfl, by unfold diffT; rw [HD.out]; exact own_nil _ _, hE.taken hDw _⟩
      · have hd : diffOk s t = true := by rw [HDO.out]; exact ok
        have HD := Lib.hid hd; clear hd ok
        gi_wp2_with fail
        exact leaveD2 hK rfl ⟨_, vs, by simp only [HD.out]; rfl, by unfold diffT; rw [HD.out]; exact (OW.out.cel (Cel.taken hK _)).base e0.size, hE.taken hDw _⟩
    case stop =>
      intro D c pre W _ h _ _
      exact h.elim
  · have hd : decide (shape s = shape t) = false := by simpa using o3
    have hd2 : diffOk s t = false := by simp [diffOk, o3]
    rw [hd]
    have HD := Lib.hid hd2; clear hd hd2 o3
    gi_wp2_with fail
    exact leave2 rfl ⟨_, [], by simp only [HD.out]; rfl, by unfold diffT; rw [HD.out]; exact own_nil _ _, e0⟩
end Go.Proofs.Ytkldaapcpnpdfaa
