/- The reference changes a cell by one, along a way. -/
import Derived.Test.YtelcdjbbcffliaaSPath
import Derived.Test.YtelcdjbbcffliaaShiftLaw
namespace Go.DC
section
variable {h m : Nat} {f : Nat → Nat → Int} {b : Nat → Nat → Bool} {i j : Nat} {up : Bool} {x X : Nat → Nat → Int}
theorem Bfs.congr {N i : Nat} {E E' : Nat → Nat → Prop} {P : Nat → Int} {q : List Nat} (w : Bfs N i E P q) (he : ∀ u v, u < N → v < N → (E u v ↔ E' u v)) : Bfs N i E' P q :=
  ⟨⟨w.way.zero, w.way.lt, w.way.nodup, fun s hs' h0 => by
    obtain ⟨t, ht, hts, hp, hE⟩ := w.way.from_ s hs' h0
    exact ⟨t, ht, hts, hp, (he _ _ (w.way.lt _ (List.getElem_mem ht)) (w.way.lt _ (List.getElem_mem hs'))).1 hE⟩⟩, w.mem, w.bd⟩
theorem Closed.congr {N : Nat} {E E' : Nat → Nat → Prop} {q : List Nat} (c : Closed N E q) (hq : ∀ u ∈ q, u < N) (he : ∀ u v, u < N → v < N → (E u v ↔ E' u v)) : Closed N E' q :=
  fun u hu v hv hE => c u hu v hv ((he u v (hq u hu) hv).2 hE)
theorem open_get (u v : Nat) : Open h m b i j up (get 0 (tabOf h m x)) u v ↔ Open h m b i j up x u v := by
  unfold Open
  constructor
  · rintro (⟨h1, h2, h3, h4, h5, h6⟩ | ⟨h1, h2, h3, h4, h5, h6⟩)
    · rw [get_tabOf x h1 (show v - h < m by omega)] at h6; exact .inl ⟨h1, h2, h3, h4, h5, h6⟩
    · rw [get_tabOf x h3 (show u - h < m by omega)] at h6; exact .inr ⟨h1, h2, h3, h4, h5, h6⟩
  · rintro (⟨h1, h2, h3, h4, h5, h6⟩ | ⟨h1, h2, h3, h4, h5, h6⟩)
    · rw [← get_tabOf (d := 0) x h1 (show v - h < m by omega)] at h6; exact .inl ⟨h1, h2, h3, h4, h5, h6⟩
    · rw [← get_tabOf (d := 0) x h3 (show u - h < m by omega)] at h6; exact .inr ⟨h1, h2, h3, h4, h5, h6⟩
/-- On the way back, in the table itself. -/
structure GoBack (h m : Nat) (f : Nat → Nat → Int) (b : Nat → Nat → Bool) (i j : Nat) (up : Bool) (x : Nat → Nat → Int) (q : List Nat) (s p : Nat) (X : Nat → Nat → Int) : Prop where
  stop : Stop (h + m) q s p
  back : Back h m f b i j (sgn up 1) x X p
  old : Old h q s x X (Open h m b i j up x)
theorem GoBack.start {q : List Nat} {s : Nat} (hx : Near h m f b i j x) (hi : i < h) (hj : j < m) (hb : b i j = true) (st : Stop (h + m) q s (h + j)) : GoBack h m f b i j up x q s (h + j) (upd x i j (x i j + sgn up 1)) :=
  ⟨st, Back.begin hx hi hj hb _, Old.begin q s _⟩
theorem GoBack.step {P : Nat → Int} {q : List Nat} {s p : Nat} (g : GoBack h m f b i j up x q s p X) (hs : Small h m f) (hx : Near h m f b i j x) (w : Bfs (h + m) i (Open h m b i j up x) P q) (hne : p ≠ i) :
    ∃ t u k l, t < s ∧ u < h + m ∧ P p = (u : Int) ∧ ((u < h ∧ h ≤ p) ∨ (p < h ∧ h ≤ u)) ∧ cellR u p = k ∧ cellC h u p = l ∧ k < h ∧ l < m ∧ 0 ≤ X k l ∧ X k l ≤ 396
      ∧ GoBack h m f b i j up x q t u (upd X k l (X k l + (if u < h then -(sgn up 1) else sgn up 1))) := by
  obtain ⟨t, u, hts, st, hPu, hE⟩ := g.stop.prev w hne
  obtain ⟨hs', es⟩ := List.getElem?_eq_some_iff.1 g.stop.at_
  obtain ⟨ht', et⟩ := List.getElem?_eq_some_iff.1 st.at_
  have hE' : Open h m b i j up x q[t] q[s] := by rw [et, es]; exact hE
  have hold := g.old s hs' t ht' (Nat.le_refl _) hts hE'
  rw [et, es] at hold
  have hpl : st.lt = st.lt := rfl
  have hplt := g.stop.lt
  have key : ((u < h ∧ h ≤ p) ∨ (p < h ∧ h ≤ u)) ∧ cellR u p < h ∧ cellC h u p < m ∧ 0 ≤ x (cellR u p) (cellC h u p) ∧ x (cellR u p) (cellC h u p) ≤ 396 ∧ 0 ≤ x (cellR u p) (cellC h u p) + (if u < h then -(sgn up 1) else sgn up 1) := by
    rcases hE with ⟨a1, a2, a3, a4, a5, a6⟩ | ⟨a1, a2, a3, a4, a5, a6⟩
    · obtain ⟨e1, e2⟩ := cell_row a1 a2
      rw [e1, e2, if_pos a1]
      have ho := hx.other hs a1 (show p - h < m by omega) a5
      refine ⟨.inl ⟨a1, a2⟩, a1, by omega, ho.1, ho.2, ?_⟩
      cases up with
      | true => have := a6 rfl; unfold sgn; simp; omega
      | false => unfold sgn; simp; omega
    · obtain ⟨e1, e2⟩ := cell_col a1 a3
      rw [e1, e2, if_neg (by omega : ¬ u < h)]
      have ho := hx.other hs a3 (show u - h < m by omega) a5
      refine ⟨.inr ⟨a3, a1⟩, a3, by omega, ho.1, ho.2, ?_⟩
      cases up with
      | true => unfold sgn; simp; omega
      | false => have := a6 rfl; unfold sgn; simp; omega
  obtain ⟨k1, k2, k3, k4, k5, k6⟩ := key
  rw [← hold] at k4 k5 k6
  refine ⟨t, u, _, _, hts, st.lt, hPu, k1, rfl, rfl, k2, k3, k4, k5, st, g.back.step hE k6, ?_⟩
  have := g.old.step w.way.nodup hs' ht' hts hE' (X (cellR u p) (cellC h u p) + (if u < h then -(sgn up 1) else sgn up 1))
  rw [et, es] at this
  exact this
end
end Go.DC
namespace Go.Proofs.Ytelcdjbbcffliaa
open Go.RowKit Go.DC
/-- What changing a cell by one hands back. -/
def ChangeOut (h m : Nat) (f : Nat → Nat → Int) (b : Nat → Nat → Bool) (i j : Nat) (up : Bool) (x : Nat → Nat → Int) (B : Nat) (v : Value) (vs : List Value) (w0 : World) (e : Ending) (w' : World) : Prop :=
  ∃ (r : Bool) (X : Nat → Nat → Int), e = .returned (.bool r) ∧ OwnI w' B v vs (tabOf h m X) ∧ Ext w0 w' ∧ Near h m f b i j X ∧ ((r = true ∧ X i j = x i j + sgn up 1) ∨ (r = false ∧ X = x ∧ ∃ R C, Cut h m b i j up x R C))
set_option maxRecDepth 10000 in
set_option maxHeartbeats 8000000 in
theorem l13Change_any (ar mb : Option Addr) (cr d h m i j B : Nat) (mk : List (List Bool)) (up : Bool) (f x : Nat → Nat → Int) (vs : List Value) (w0 w : World) (hmk : BRows w0 mb mk) (hrm : Rect mk h m) (own : OwnI w B (.slice ar h cr) vs (tabOf h m x)) (e0 : Ext w0 w) (hB : w0.heap.size ≤ B)
    (h1 : 1 ≤ h) (h4 : h ≤ 4) (m4 : m ≤ 4) (hi : i < h) (hj : j < m) (hb : get false mk i j = true) (hs : Small h m f) (hx : Near h m f (get false mk) i j x) :
    Calls Try.prog 46 #[.slice ar h cr, .slice mb mk.length d, .int .i64 i, .int .i64 j, .bool up] w (ChangeOut h m f (get false mk) i j up x B (.slice ar h cr) vs w0) := by
  have HM := Lib.hid hmk; clear hmk
  have OW := Lib.hid own
  have hrows : IRows w ar (tabOf h m x) := by
    obtain ⟨a', c', hv, _, hr, _⟩ := own.rows
    rw [tabOf_length] at hv
    cases hv
    exact hr
  have HPATH := Lib.hid (l13Path_any ar mb cr d h m i j (tabOf h m x) mk up w hrows (HM.out.ext e0) (rect_tabOf h m x) hrm h1 h4 m4 hi hj)
  rw [tabOf_length] at HPATH
  have HS := Lib.hid hs; have HX := Lib.hid hx; have HB := Lib.hid hb
  have hlo : -4000 ≤ x i j ∧ x i j ≤ 4000 := by
    have a1 := hx.le_row hi hj
    have a2 := hs.1 i hi
    have a3 := hx.ge_tot (fun k l hk hl => (hs.2.2 k l hk hl).1) hi hj
    have a4 : sumN m (fun l => sumN h (fun k => f k l)) ≤ sumN m (fun _ => 396) := sumN_le fun l hl => hs.2.1 l hl
    rw [sumN_const] at a4
    omega
  obtain ⟨N, hN⟩ : ∃ N, h + m = N := ⟨_, rfl⟩
  obtain ⟨z, hz⟩ : ∃ z, h + j = z := ⟨_, rfl⟩
  have hzc : (h : Int) + (j : Int) = (z : Int) := by omega
  have hN8 : N ≤ 8 := by omega
  have hzN : z < N := by omega
  have hzn : (z : Int) < (N : Int) := by omega
  have HZ := Lib.hid hz; have HN := Lib.hid hN
  have hiz : (i : Int) < (h : Int) := by omega
  have hjz : (j : Int) < (m : Int) := by omega
  obtain ⟨o, c', g, ck, ev, hoB, co, hgB, _, hvs, cg, fg, _⟩ := own.atC (i := i) (j := j) hi hj
  cases ev
  have hset := own.setC (j := j) hi hvs (x i j + sgn up 1)
  obtain ⟨y0, hy0⟩ : ∃ y, x i j = y := ⟨_, rfl⟩
  have HY0 := Lib.hid hy0
  rw [hy0] at cg hlo
  obtain ⟨hlo0, hlo1⟩ := hlo
  have hglt : g < w.heap.size := World.block_lt_of_cell? _ _ cg
  have holt : o < w.heap.size := World.block_lt_of_cell? _ _ co
  unfold encI at cg
  have e0' := e0
  have hin : ∀ k (hk : k < vs.length) g', vs[k].ownBlock = some g' → B ≤ g' ∧ g' < w.heap.size := fun k hk g' hg' => own.inner_lt hk hg'
  have OW2 := Lib.hid hin
  clear hs hx hb hz hN hy0 own hrows hset hin
  go_enter Try.func46, Try.ntmps46
  go_wp2_with fail
  refine HPATH.out.mono ?_
  rintro e w1 ⟨v, P, q, rfl, own1, bfs, clo, e1⟩
  have bfs' := bfs.congr (fun u v _ _ => open_get u v)
  have clo' := clo.congr bfs.way.lt (fun u v _ _ => open_get u v)
  rw [HN.out] at own1
  obtain ⟨ap, cp, hv, _, hxp⟩ := owns_cells own1
  subst hv
  obtain ⟨pb, hap, hpb, hc0, _⟩ := hxp z _ (rowOf_at P hzN)
  subst hap
  have hcell : ∀ k, k < N → w1.cell? ⟨pb, k, none⟩ = some (.int .i64 (P k)) := fun k hk => by
    obtain ⟨pb', hap', _, hc', _⟩ := hxp k _ (rowOf_at P hk)
    cases hap'
    exact hc'
  have HC := Lib.hid hcell
  have BF := Lib.hid bfs'; have CLO := Lib.hid clo'
  have hPz := bfs'.bd z (by rw [HN.out]; exact hzN)
  obtain ⟨hPz0, hPz1⟩ := hPz
  obtain ⟨y, hy⟩ : ∃ y, P z = y := ⟨_, rfl⟩
  unfold encI at hc0
  rw [hy] at hc0 hPz0 hPz1
  have HY := Lib.hid hy
  have OW1 := Lib.hid (OW.out.ext e1)
  have E1 := Lib.hid (e0.trans e1)
  have co1 := e1.cell co
  have cg1 := e1.cell cg
  have fg1 := (e1.frozen cg).trans fg
  clear hy hcell hxp own1 bfs clo bfs' clo' e0 e0' e1 co cg fg OW
  by_cases hy0 : y < 0
  · have hcut := cut_of_closed HX.out BF.out.way CLO.out (fun hm => by
      have := (BF.out.mem z (by rw [HN.out]; exact hzN)).2 (by rw [← HZ.out]; exact hm)
      rw [HY.out] at this
      omega)
    have HCUT := Lib.hid hcut; clear hcut
    go_wp2_with fail
    go_ret
    exact ⟨false, x, rfl, OW1.out, E1.out, HX.out, .inr ⟨rfl, rfl, _, _, HCUT.out⟩⟩
  · have hy0' : decide (y < 0) = false := by simpa using hy0
    obtain ⟨s0, hst⟩ := BF.out.stop (p := z) (by rw [HN.out]; exact hzN) (by rw [HY.out]; omega)
    have gb := GoBack.start (up := up) HX.out hi hj HB.out (s := s0) (q := q) (by rw [HZ.out]; exact hst)
    have hset := OW1.out.setC (j := j) hi hvs (x i j + sgn up 1)
    rw [HZ.out] at gb
    rw [HY0.out] at gb hset
    have GB := Lib.hid gb; have SET := Lib.hid hset
    have hvs' := Lib.hid hvs
    clear gb hset hst hy0 hvs
    have hpbg : g < pb := by omega
    have hfr0 : ∀ z0, (w1.setCell ⟨g, j, none⟩ z0).drew.heap[pb]? = w1.heap[pb]? := fun z0 => Below.heap_setCell w1 ⟨g, j, none⟩ z0 pb (by show pb ≠ g; omega)
    have FR0 := Lib.hid hfr0
    have hx0 : Ext w0 (w1.setCell ⟨g, j, none⟩ (encI (y0 + sgn up 1))).drew := (E1.out.setCell (p := ⟨g, j, none⟩) (by show w0.heap.size ≤ g; omega) _).drew
    have X0 := Lib.hid hx0
    have hBp : ∀ k (hk : k < vs.length) g', vs[k].ownBlock = some g' → B ≤ g' ∧ g' < pb := fun k hk g' hg' => by
      have := OW2.out k hk g' hg'
      omega
    have BP := Lib.hid hBp
    clear hfr0 hx0 hBp
    have hups : (up = true ∧ sgn up 1 = 1) ∨ (up = false ∧ sgn up 1 = -1) := by cases up <;> simp [sgn]
    rcases hups with ⟨hup, hst0⟩ | ⟨hup, hst0⟩
    all_goals
      have ST := Lib.hid hst0
      clear hst0
      obtain ⟨W2, hW2⟩ : ∃ W2, W2 = (w1.setCell ⟨g, j, none⟩ (encI (y0 + sgn up 1))).drew := ⟨_, rfl⟩
      have S2 := SET.out.ext ((Ext.refl _).drew)
      have F2 := FR0.out (encI (y0 + sgn up 1))
      have Y2 := X0.out
      rw [← hW2] at S2 F2 Y2
      have SS2 := Lib.hid S2; have FF2 := Lib.hid F2; have YY2 := Lib.hid Y2
      have HW2 := Lib.hid hW2
      clear hW2 S2 F2 Y2 SET FR0 X0
      go_wp2_with fail
      go_still_tail 15, (by kernel_rfl)
      go_wp2_with fail
      have hWeq := HW2.out
      unfold encI at hWeq
      have hst := ST.out
      rw [hst] at hWeq
      rw [← hWeq]
      clear HW2 hWeq hst
      go_loopg [12] s0 (fun gg v wr => ∃ (s p : Nat) (X : Nat → Nat → Int), gg = s ∧ v = .int .i64 p ∧ p < N ∧ Hid (GoBack h m f (get false mk) i j up x q s p X) ∧ Hid (OwnI wr B (.slice (some ⟨o, 0, none⟩) h cr) vs (tabOf h m X)) ∧ Ext w0 wr ∧ Hid (wr.heap[pb]? = w1.heap[pb]?))
      case atStart => exact ⟨s0, z, _, rfl, rfl, hzN, GB.out, SS2.out, YY2.out, FF2.out⟩
      case round =>
        clear SS2 FF2 YY2 GB
        obtain ⟨s, p, X, rfl, rfl, hpN, hgb, how, hext, hfr⟩ := hrel
        by_cases hpi : p = i
        · subst hpi
          have hback := hgb.out.back
          have hn := hback.done hi
          have ho : X p j = x p j + sgn up 1 := hback.own
          have HNN := Lib.hid hn; have HOO := Lib.hid ho
          clear hback hn ho
          go_wp2_with fail
          go_ret
          exact ⟨true, X, rfl, how.out, hext, HNN.out, .inl ⟨rfl, HOO.out⟩⟩
        · have hpib : ((p : Int) != (i : Int)) = true := by rw [bne_iff_ne]; omega
          obtain ⟨t, u, k, l, hts, huN0, hPu, huv, e1, e2, hkh, hlm, hX0, hX1, hgb'⟩ := hgb.out.step HS.out HX.out BF.out hpi
          have huN : u < N := by rw [← HN.out]; exact huN0
          have cP := (World.cell?_of_block (w := w1) (a := ⟨pb, p, none⟩) hfr.out).trans (HC.out p hpN)
          rw [hPu] at cP
          have huz : (u : Int) < (N : Int) := by omega
          have hpz : (p : Int) < (N : Int) := by omega
          have hkz : (k : Int) < (h : Int) := by omega
          have hlz : (l : Int) < (m : Int) := by omega
          obtain ⟨_, c', g2, ck2, ev, _, co2, hgB2, _, hvs2, cg2, fg2, _⟩ := how.out.atC (i := k) (j := l) hkh hlm
          cases ev
          obtain ⟨_, hgp2⟩ : B ≤ g2 ∧ g2 < pb := by
            obtain ⟨hk, e⟩ := List.getElem?_eq_some_iff.1 hvs2
            exact BP.out k hk g2 (by rw [e]; rfl)
          have hset2 := how.out.setC (j := l) hkh hvs2 (X k l + (if u < h then -(sgn up 1) else sgn up 1))
          obtain ⟨r, hr⟩ : ∃ r, X k l = r := ⟨_, rfl⟩
          rw [hr] at cg2 hX0 hX1 hset2 hgb'
          unfold encI at cg2
          have hst := ST.out
          rw [hst] at hset2 hgb'
          clear hst
          have E1' := Lib.hid e1; have E2' := Lib.hid e2; have HSET2 := Lib.hid hset2; have GB2 := Lib.hid hgb'
          have hfr2 : ∀ z0, (wr.setCell ⟨g2, l, none⟩ z0).drew.heap[pb]? = w1.heap[pb]? := fun z0 => (Below.heap_setCell wr ⟨g2, l, none⟩ z0 pb (by show pb ≠ g2; omega)).trans hfr.out
          have hx2 : ∀ z0, Ext w0 (wr.setCell ⟨g2, l, none⟩ z0).drew := fun z0 => (hext.setCell (p := ⟨g2, l, none⟩) (by show w0.heap.size ≤ g2; omega) _).drew
          have FR2 := Lib.hid hfr2; have XX2 := Lib.hid hx2
          clear e1 e2 hset2 hgb' hr hPu hvs2 hfr2 hx2 how hgb
          go_wp2_with fail
          refine (l13Cell_any h u p _ h4 (by omega) (by omega) huv).mono ?_
          rintro e w3 ⟨rfl, rfl⟩
          rw [E1'.out, E2'.out]
          by_cases hu : u < h
          · have huhz : (u : Int) < (h : Int) := by omega
            rw [if_pos hu] at HSET2 GB2
            clear huv
            go_wp2_with fail
            go_still_tail 15, (by kernel_rfl)
            go_wp2_with fail
            go_roundg t
            case measure => exact hts
            case rel => exact ⟨t, u, _, rfl, rfl, huN, GB2.out, HSET2.out.ext ((Ext.refl _).drew), XX2.out _, FR2.out _⟩
          · have huhz : ¬ (u : Int) < (h : Int) := by omega
            rw [if_neg hu] at HSET2 GB2
            clear huv
            go_wp2_with fail
            go_still_tail 15, (by kernel_rfl)
            go_wp2_with fail
            go_roundg t
            case measure => exact hts
            case rel => exact ⟨t, u, _, rfl, rfl, huN, GB2.out, HSET2.out.ext ((Ext.refl _).drew), XX2.out _, FR2.out _⟩
end Go.Proofs.Ytelcdjbbcffliaa
