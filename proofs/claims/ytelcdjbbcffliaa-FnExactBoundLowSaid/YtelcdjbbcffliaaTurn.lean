/- Rows and columns are exchanged. -/
import Derived.Test.YtelcdjbbcffliaaCells
import Derived.Sort.CutIn
namespace Go.Proofs.Ytelcdjbbcffliaa
open Go.RowKit Go.DC Go.Shelf
attribute [local go_sem] Oper.semAt_some
def turnT (t : List (List Int)) : List (List Int) := tabOf (wide t) t.length (fun a b => get 0 t b a)
def turnM (t : List (List Int)) : List (List Int) := if tabOk t then turnT t else []
def TurnOut (t : List (List Int)) (w : World) (e : Ending) (w' : World) : Prop :=
  ∃ v vs, e = .returned (.tuple #[v, .bool (tabOk t)]) ∧ OwnI w' w.heap.size v vs (turnM t) ∧ Ext w w'
def turnG (t : List (List Int)) (pre : List (Cell t.length (wide t))) : Nat → Nat → Int := fun a b => if cnt pre b a = 0 then 0 else get 0 t b a
theorem turnG_step {t : List (List Int)} (pre : List (Cell t.length (wide t))) {i j : Nat} (hi : i < t.length) (hj : j < wide t) : upd (turnG t pre) j i (get 0 t i j) = turnG t (pre ++ [⟨(i, j), hi, hj⟩]) := by
  funext a b
  unfold upd turnG
  rw [cnt_append, cnt_one]
  by_cases e : a = j ∧ b = i
  · obtain ⟨rfl, rfl⟩ := e
    simp
  · have e2 : ¬ (b = i ∧ a = j) := fun x => e ⟨x.2, x.1⟩
    rw [if_neg e]
    simp only [e2, if_false, Nat.add_zero]
/-- A new table in a new box. -/
structure NewBox (W0 wx : World) (T : TypeId) (p : Nat) (v : Value) (vs : List Value) (t : List (List Int)) : Prop where
  box : Box wx p T v
  ge : W0.heap.size ≤ p
  own : OwnI wx W0.heap.size v vs t
  ne : v.ownBlock ≠ some p
  nes : ∀ u ∈ vs, u.ownBlock ≠ some p
  ext : Ext W0 wx
theorem newBox_A {W0 w3 : World} {T : TypeId} {v : Value} {vs : List Value} {t : List (List Int)} (o3 : OwnI w3 W0.drew.heap.size v vs t) (e3 : Ext W0.drew w3) : NewBox W0 (w3.alloc (.cells #[v] T)) T w3.heap.size v vs t :=
  ⟨Box.new w3 T v, e3.size, o3.ext ((Ext.refl w3).alloc _), fun h => Nat.lt_irrefl _ (o3.outer_lt h).2, fun u hu h => by
    obtain ⟨k, hk, rfl⟩ := List.getElem_of_mem hu
    exact Nat.lt_irrefl _ (o3.inner_lt hk h).2, (((Ext.refl W0).drew).trans e3).alloc _⟩
theorem newBox_B {W0 w3 : World} {T : TypeId} {u v : Value} {o : Obj} {vs : List Value} {t : List (List Int)} (o3 : OwnI w3 (W0.alloc o).drew.heap.size v vs t) (e3 : Ext (W0.alloc o).drew w3) (bP : Box w3 W0.heap.size T u) : NewBox W0 (w3.setCell ⟨W0.heap.size, 0, none⟩ v) T W0.heap.size v vs t := by
  have hs : (W0.alloc o).drew.heap.size = W0.heap.size + 1 := by show (W0.alloc o).heap.size = _; simp
  rw [hs] at o3
  refine ⟨bP.set v, Nat.le_refl _, (o3.keep ((Keep.refl W0.heap.size w3).setCell (p := ⟨W0.heap.size, 0, none⟩) rfl v) (Nat.lt_succ_self _)).base (Nat.le_succ _), fun h => ?_, fun u hu h => ?_, ((((Ext.refl W0).alloc o).drew).trans e3).setCell (p := ⟨W0.heap.size, 0, none⟩) (Nat.le_refl _) v⟩
  · have := (o3.outer_lt h).1; omega
  · obtain ⟨k, hk, rfl⟩ := List.getElem_of_mem hu
    have := (o3.inner_lt hk h).1; omega
set_option maxRecDepth 100000 in
set_option maxHeartbeats 4000000 in
theorem TableTurn_any (a : Option Addr) (c : Nat) (t : List (List Int)) (w : World) (ht : IRows w a t) (hm : t.length ≤ 9223372036854775807) :
    Calls Try.prog 25 #[.slice a t.length c] w (TurnOut t w) := by
  have HT := Lib.hid ht; clear ht
  refine (callsIn_wide (n := 9)).1 ?_
  refine callsIn_of_wp_marks Try.func25 rfl trivial ?_ rfl
  simp only [Try.ntmps25, List.size_toArray, List.length_cons, List.length_nil, Nat.reduceAdd, Nat.reduceSub, Array.replicate_succ, Array.replicate_zero, List.push_toArray, List.append_toArray, List.nil_append, List.cons_append]
  have e0 : Ext w (w.alloc (.cells #[.slice a t.length c] 23)) := (Ext.refl w).alloc _
  have bx0 := Box.new w 23 (.slice a t.length c)
  gi_wp2_with fail
  obtain ⟨W0, hW0⟩ : ∃ W0, w.alloc (.cells #[.slice a t.length c] 23) = W0 := ⟨_, rfl⟩
  rw [hW0] at e0 bx0 ⊢
  clear hW0
  have hcB := bx0.cell
  refine ⟨trivial, (callsIn_wide.2 (TableValid_any _ _ t _ (HT.out.ext e0) hm)).mono ?_⟩
  rintro e w' ⟨rfl, rfl⟩
  cases o1 : tabOk t
  · have hd : turnM t = [] := by simp [turnM, o1]
    have HD := Lib.hid hd; have O1 := Lib.hid o1; clear hd o1
    gi_wp2_with fail
    exact leave2 rfl ⟨_, [], by rw [O1.out]; rfl, by rw [HD.out]; exact own_nil _ _, e0⟩
  have O1 := Lib.hid o1; clear o1
  obtain ⟨r, h1, h4, m1, m4, hcl⟩ := tabOk_rect O1.out
  have R := Lib.hid r; have CL := Lib.hid hcl
  clear r hcl
  obtain ⟨b0, off0, a0, c0, rfl, hc0⟩ := HT.out.rowC R.out (i := 0) (by omega)
  simp only [Nat.add_zero] at hc0
  have hc0' := e0.cell hc0
  have hltB := bx0.lt
  have hltb : b0 < W0.heap.size := Nat.lt_of_lt_of_le (World.block_lt_of_cell? _ _ hc0) e0.size
  have h0z : (0 : Int) < (t.length : Int) := by omega
  gi_wp2_with fail
  gi_cut [4] from 7 (fun s4 wx => ∃ (p4 : Nat) (av : Option Addr) (cv : Nat) (vs : List Value), s4 = .pointer (some ⟨p4, 0, none⟩) ∧ NewBox W0 wx 23 p4 (.slice av (wide t) cv) vs (List.replicate (wide t) (List.replicate t.length 0)))
  case first =>
    rename_i J K' hJ hK
    gi_region_with (first
      | (refine ⟨trivial, (callsIn_wide.2 (emptyTable_any (wide t) t.length W0.drew (by omega) (by omega))).mono ?_⟩
         rintro e w3 ⟨v, vs, rfl, o3, e3⟩
         obtain ⟨av, cv, hv, hz1, hz2, hz3⟩ := o3.rows
         rw [List.length_replicate] at hv
         subst hv
         clear hz1 hz2 hz3)
      | (refine ⟨trivial, (callsIn_wide.2 (emptyTable_any (wide t) t.length (W0.alloc (.cells #[.slice none 0 0] 23)).drew (by omega) (by omega))).mono ?_⟩
         rintro e w3 ⟨v, vs, rfl, o3, e3⟩
         obtain ⟨av, cv, hv, hz1, hz2, hz3⟩ := o3.rows
         rw [List.length_replicate] at hv
         subst hv
         clear hz1 hz2 hz3
         have bP := ((Box.new W0 23 (.slice none 0 0)).ext ((Ext.refl _).drew)).ext e3
         have cP := bP.cell
         have fP := bP.frozen))
    all_goals
      refine hK _ _ (Met.intro (hJ _ _ ?_))
      (repeat apply Exists.intro)
      first
        | exact ⟨⟨_, _, _, _, rfl, newBox_A o3 e3⟩, rfl⟩
        | exact ⟨⟨_, _, _, _, rfl, newBox_B o3 e3 bP⟩, rfl⟩
  case rest =>
    obtain ⟨p4, av, cv, vs, rfl, nb⟩ := hcut
    obtain ⟨b4, hp4, own, hne, hnes, eW⟩ := nb
    have hv0 : ∀ k (hk : k < vs.length), vs[k].ownBlock ≠ some p4 := fun k hk => hnes _ (List.getElem_mem hk)
    have HV := Lib.hid hv0; clear hv0 hnes
    have bB := bx0.ext eW
    have hcB2 := bB.cell
    have ew : Ext w wc := e0.trans eW
    have hWw : w.heap.size ≤ W0.heap.size := e0.size
    rw [replicate_tab] at own
    clear hc0' hcB hltb eW bx0
    gi_wp2_with fail
    refine ⟨trivial, (cellsOf_in Fence.wide _ (wide_fn _) rfl _ _ _ _).mono ?_⟩
    rintro e w2 ⟨rfl, rfl⟩
    have bI := Box.new wc 23 (.slice (some ⟨b0, off0, none⟩) t.length c)
    have x2 : Ext wc (wc.alloc (.cells #[.slice (some ⟨b0, off0, none⟩) t.length c] 23)) := (Ext.refl _).alloc _
    have bB2 := bB.ext x2
    have b42 := b4.ext x2
    have own2 : OwnI (wc.alloc (.cells #[.slice (some ⟨b0, off0, none⟩) t.length c] 23)) W0.heap.size (.slice av (wide t) cv) vs (tabOf (wide t) t.length (turnG t [])) := own.ext x2
    have hcI := bI.cell
    have ew2 := ew.trans x2
    have hl4 := b4.lt
    obtain ⟨W2, hW2⟩ : ∃ W2, wc.alloc (.cells #[.slice (some ⟨b0, off0, none⟩) t.length c] 23) = W2 := ⟨_, rfl⟩
    rw [hW2] at bB2 b42 own2 hcI ew2 ⊢
    clear hW2 bI x2 bB b4 own hcB2 ew
    gi_wp2_with fail
    refine wpIn_cells (by omega) w wc.heap.size t.length (wide t) (some ⟨b0, off0, none⟩) c t HT.out R.out (by omega) (by omega) rfl ew2 hcI rfl
      (fun pre W => Box W w.heap.size 23 (.slice (some ⟨b0, off0, none⟩) t.length c) ∧ Box W p4 23 (.slice av (wide t) cv) ∧ OwnI W W0.heap.size (.slice av (wide t) cv) vs (tabOf (wide t) t.length (turnG t pre)))
      (fun _ _ _ => False) (fun pre A B hs k => ⟨hs.1.cel k, hs.2.1.cel k, hs.2.2.cel k⟩) (fun _ _ _ _ hs _ => hs.elim)
      ⟨bB2, b42, own2⟩
      ?round ?done ?stop
    case round =>
      clear bB2 b42 own2 hcI
      intro l x W K hK
      have HK := Lib.hid hK; clear hK
      gi_wp2_with fail
      refine HK.out _ ?_
      clear HK K
      rintro l' pre W' ⟨b1, b2, ow⟩ hE hlt
      obtain ⟨⟨i, j⟩, hi, hj⟩ := x
      dsimp only at hi hj ⊢
      obtain ⟨tb, tf, tb2, tf2, tk, ea, ct1, ct2⟩ := (HT.out.ext hE).atC 0 R.out hi hj
      cases ea
      obtain ⟨o, co, g, ck, ev, ho, co1, hg, hgo, hvs, cg, fg, _⟩ := ow.atC hj hi
      cases ev
      have hset := ow.setC (j := i) hj hvs (get 0 t i j)
      rw [turnG_step pre hi hj] at hset
      obtain ⟨y, hy⟩ : ∃ y, get 0 t i j = y := ⟨_, rfl⟩
      obtain ⟨z, hz⟩ : ∃ z, turnG t pre j i = z := ⟨_, rfl⟩
      rw [hy] at ct2 hset
      rw [hz] at cg
      have hgp : g ≠ p4 := fun e => by
        obtain ⟨hk, e2⟩ := List.getElem?_eq_some_iff.1 hvs
        exact HV.out j hk (by rw [e2, e]; rfl)
      have cb1 := b1.cell
      have cb2 := b2.cell
      have hib : (i : Int) < (t.length : Int) := by omega
      have hjb : (j : Int) < (wide t : Int) := by omega
      unfold encI at cg ct2 hset
      have HS := Lib.hid hset; have B1 := Lib.hid b1; have B2 := Lib.hid b2
      clear hset b1 b2 ow hy hz
      gi_wp2_with fail
      refine wpR_still_tail 13 (by kernel_rfl) (by kernel_rfl) (by kernel_rfl) ?_
      simp only [List.take_succ_cons, List.take_zero, List.drop_succ_cons, List.drop_zero]
      repeat still_step
      refine wpStill_nil ?_
      go_wp2_with fail
      refine noOut_normal ?_
      gi_wp2_with fail
      have hst : Stp w.heap.size W2.heap.size W' ((W'.setCell ⟨g, i, none⟩ (.int .i64 y)).drew) := ((Stp.refl _ _ W').setCell (p := ⟨g, i, none⟩) (by show w.heap.size ≤ g; omega) _).drew
      refine ⟨hst.from_, hst.below, ⟨?_, ?_, ?_⟩, (hE.setCell (p := ⟨g, i, none⟩) (by show w.heap.size ≤ g; omega) _).drew⟩
      · exact (B1.out.other ⟨g, i, none⟩ _ (by show g ≠ w.heap.size; omega)).ext ((Ext.refl _).drew)
      · exact (B2.out.other ⟨g, i, none⟩ _ hgp).ext ((Ext.refl _).drew)
      · exact HS.out.ext ((Ext.refl _).drew)
    case done =>
      rintro D W hD ⟨b1, b2, ow⟩ hE hK
      rw [tabOf_congr (f := fun a b => get 0 t b a) (fun i j hi hj => by unfold turnG; rw [cnt_all hj hi]; simp)] at ow
      have cb2 := b2.cell
      have OW := Lib.hid ow; clear ow
      have hDw : w.heap.size ≤ D := by have := ew2.size; omega
      gi_wp2_with fail
      exact leaveD2 hK rfl ⟨_, vs, by rw [O1.out]; rfl, by unfold turnM turnT; rw [O1.out]; exact (OW.out.cel (Cel.taken hK _)).base hWw, hE.taken hDw _⟩
    case stop =>
      intro D c pre W _ h _ _
      exact h.elim
end Go.Proofs.Ytelcdjbbcffliaa
