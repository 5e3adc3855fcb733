/- The second loop of impl.shift: the flow grows while there is a way. No conditions. -/
import Derived.Test.YtelcdjbbcffliaaShiftFill
import Derived.Test.YtelcdjbbcffliaaBase
namespace Go.Proofs.Ytelcdjbbcffliaa
open Go.RowKit Go.DC Go.Shelf
attribute [local go_sem] Oper.semAt_some
noncomputable def mainCode : Code := ((Try.f43.body.bind loopBody).getD .skip)
/-- What stands in memory while the flow grows. -/
structure Grow (W : World) (w : World) (n0 p11 p13 D : Nat) (vt vm : Value) (i j : Nat) (up : Bool) (H N : Nat) (ar : Option Addr) (cr B : Nat) (vs : List Value) (R : Nat → Nat → Int) : Prop where
  env : Env W n0 p11 p13 vt vm i j up H (.slice ar N cr)
  own : OwnI W B (.slice ar N cr) vs (tabOf N N R)
  ext : Ext w W
  mark : W.heap[D]? = some (.deferred (some []))
theorem Grow.to {W W' w : World} {n0 p11 p13 D : Nat} {vt vm : Value} {i j : Nat} {up : Bool} {H N : Nat} {ar : Option Addr} {cr B : Nat} {vs : List Value} {R : Nat → Nat → Int} (g : Grow W w n0 p11 p13 D vt vm i j up H N ar cr B vs R) (e : Ext W W') : Grow W' w n0 p11 p13 D vt vm i j up H N ar cr B vs R :=
  ⟨g.env.ext e, g.own.ext e, g.ext.trans e, (e.block D (Array.getElem?_eq_some_iff.1 g.mark).1).trans g.mark⟩
theorem Grow.set {W w : World} {n0 p11 p13 D : Nat} {vt vm : Value} {i j : Nat} {up : Bool} {H N : Nat} {ar : Option Addr} {cr B : Nat} {vs : List Value} {R : Nat → Nat → Int} (g : Grow W w n0 p11 p13 D vt vm i j up H N ar cr B vs R)
    {u p b nn ck : Nat} (hu : u < N) (hb : vs[u]? = some (.slice (some ⟨b, 0, none⟩) nn ck)) (z : Int) (h1 : n0 + 4 < b) (h2 : b ≠ p11) (h3 : b ≠ p13) (h4 : b ≠ D) (h5 : w.heap.size ≤ b) : Grow (W.setCell ⟨b, p, none⟩ (encI z)) w n0 p11 p13 D vt vm i j up H N ar cr B vs (upd R u p z) :=
  ⟨g.env.other _ _ h1 h2 h3, g.own.setC hu hb z, g.ext.setCell (p := ⟨b, p, none⟩) h5 _, (Below.heap_setCell W ⟨b, p, none⟩ (encI z) D (fun e => h4 e.symm)).trans g.mark⟩
/-- The end of the loop. -/
def MainOut (w : World) (D H M : Nat) (f : Nat → Nat → Int) (b : Nat → Nat → Bool) (i j : Nat) (up : Bool) (F : Int) (W : World) : Prop :=
  W.heap[D]? = some (.deferred (some [])) ∧ Ext w W ∧ ∃ (x : Nat → Nat → Int) (R C : Nat → Bool), Near H M f b i j x ∧ x i j = f i j + sgn up F ∧ Cut H M b i j up x R C
set_option maxRecDepth 1000000 in
set_option maxHeartbeats 16000000 in
theorem main_any (u0 u1 u4 u10 u12 u14 u15 u16 u17 u19 u20 u21 u22 u23 u24 u25 u26 u27 u28 u29 u30 u31 u32 u33 u34 u35 u36 u37 u38 u39 u40 u41 u42 u43 u44 u45 u46 u47 u48 u49 u50 u51 u52 u53 u54 u55 u56 u57 u58 u59 u60 u61 u62 u63 u64 u65 u66 u67 u68 u69 u70 u71 u72 u73 u74 u75 u76 u77 u78 u79 u80 u81 u82 u83 u84 u85 u86 u87 u88 u89 u90 u91 u92 u93 u94 u95 u96 u97 u98 u99 u100 u101 u102 u103 u104 u105 u106 u107 u108 u109 u110 u111 u112 u113 u114 u115 u116 u117 u118 u119 u120 u121 u122 u123 u124 u125 u126 u127 u128 u129 u130 u131 u132 u133 u134 u135 u136 u137 u138 u139 u140 u141 u142 u143 u144 u145 u146 u147 u148 u149 u150 u151 u152 u153 u154 u155 u156 u157 u158 u159 u160 u161 u162 u163 u164 u165 u166 u167 u168 u169 u170 u171 u172 u173 : Value) {Q : Exit → Act → World → Prop} (w : World) (n0 p11 p13 D : Nat) (vt vm : Value) (i j : Nat) (up : Bool) (H M N : Nat) (ar : Option Addr) (cr B : Nat) (vs : List Value) (f : Nat → Nat → Int) (b : Nat → Nat → Bool) (W : World)
    (hN : H + M = N) (h4 : H ≤ 4) (m4 : M ≤ 4) (hi : i < H) (hj : j < M) (hb : b i j = true) (hs : Small H M f)
    (hB1 : n0 + 5 ≤ p11) (hB2 : p11 < B) (hB4 : p13 < D) (hB5 : w.heap.size ≤ n0)
    (hin : ∀ k (hk : k < vs.length) g, vs[k].ownBlock = some g → B ≤ g ∧ g < p13)
    (hg : Grow W w n0 p11 p13 D vt vm i j up H N ar cr B vs (roomG H f b i j up f))
    (hQ : ∀ F W' a, a.defers = [{ target := .collected D, args := #[] }] → a.tmps.getD 10 undef = .int .i64 F → MainOut w D H M f b i j up F W' → Q .ret a W') :
    (Code.loop mainCode).wpIn Fence.wide 9 Try.prog Q ⟨#[u0, u1, .int .i64 (i : Int), .int .i64 (j : Int), u4, .pointer (some ⟨n0, 0, none⟩), .pointer (some ⟨n0 + 1, 0, none⟩), .pointer (some ⟨n0 + 1 + 1, 0, none⟩), .pointer (some ⟨n0 + 1 + 1 + 1, 0, none⟩), .pointer (some ⟨n0 + 1 + 1 + 1 + 1, 0, none⟩), u10, .pointer (some ⟨p11, 0, none⟩), u12, .pointer (some ⟨p13, 0, none⟩), u14, u15, u16, u17, .int .i64 0, u19, u20, u21, u22, u23, u24, u25, u26, u27, u28, u29, u30, u31, u32, u33, u34, u35, u36, u37, u38, u39, u40, u41, u42, u43, u44, u45, u46, u47, u48, u49, u50, u51, u52, u53, u54, u55, u56, u57, u58, u59, u60, u61, u62, u63, u64, u65, u66, u67, u68, u69, u70, u71, u72, u73, u74, u75, u76, u77, u78, u79, u80, u81, u82, u83, u84, u85, u86, u87, u88, u89, u90, u91, u92, u93, u94, u95, u96, u97, u98, u99, u100, u101, u102, u103, u104, u105, u106, u107, u108, u109, u110, u111, u112, u113, u114, u115, u116, u117, u118, u119, u120, u121, u122, u123, u124, u125, u126, u127, u128, u129, u130, u131, u132, u133, u134, u135, u136, u137, u138, u139, u140, u141, u142, u143, u144, u145, u146, u147, u148, u149, u150, u151, u152, u153, u154, u155, u156, u157, u158, u159, u160, u161, u162, u163, u164, u165, u166, u167, u168, u169, u170, u171, u172, u173], [{ target := .collected D, args := #[] }]⟩ W := by
  have HQ := Lib.hid hQ; clear hQ
  have HIN := Lib.hid hin; clear hin
  have HS := Lib.hid hs
  have HB := Lib.hid hb; clear hb
  have HG0 := Lib.hid hg; clear hg
  have hmix : Try.prog.follows .mixedOrders = true := by kernel_rfl
  obtain ⟨z, hz⟩ : ∃ z, H + j = z := ⟨_, rfl⟩
  have hzc : (H : Int) + (j : Int) = (z : Int) := by omega
  have hzN : z < N := by omega
  have hzn : (z : Int) < (N : Int) := by omega
  have hzw : IntKind.i64.wrap (z : Int) = (z : Int) := IntWalk.i64_in _ (by omega)
  have hiN : i < N := by omega
  have hN8 : N ≤ 8 := by omega
  have HZ := Lib.hid hz
  have HN := Lib.hid hN
  have F0 := Lib.hid (FlowAt.start (up := up) (b := b) (i := i) (j := j) (fun k l hk hl => (hs.2.2 k l hk hl).1))
  clear hs hz hN
  conv => arg 4; arg 1; whnf
  dsimp only
  gi_loopg [18] 2000 (fun g s wr => ∃ (F : Int) (x : Nat → Nat → Int), g = (2000 - F).toNat ∧ s = .int .i64 F ∧ Hid (FlowAt H M f b i j up F x) ∧ Grow wr w n0 p11 p13 D vt vm i j up H N ar cr B vs (roomG H f b i j up x))
  case atStart => exact ⟨0, f, rfl, rfl, F0.out, HG0.out⟩
  case round =>
    clear HG0 F0
    obtain ⟨F, x, rfl, rfl, hF, hg⟩ := hrel
    have HG := Lib.hid hg
    have hnear := hF.out.near
    have hFb := hF.out.bd HS.out hi hj m4
    have hFp := hF.out.pos
    have cI := hg.env.bI.cell; have cJ := hg.env.bJ.cell; have cH := hg.env.bH.cell; have cR := hg.env.bR.cell
    have hrows : IRows wr ar (tabOf N N (roomG H f b i j up x)) := by
      obtain ⟨a', c', hv, _, hr, _⟩ := hg.own.rows
      rw [tabOf_length] at hv
      cases hv
      exact hr
    have HR := Lib.hid hrows
    have HNE := Lib.hid hnear
    obtain ⟨G, hG⟩ : ∃ G, roomG H f b i j up x = G := ⟨_, rfl⟩
    rw [hG] at HR HG
    have HGG := Lib.hid hG
    clear hg hrows hnear hG
    gi_wp2_with fail
    refine ⟨trivial, (callsIn_wide.2 (reach_any ar cr N i G _ HR.out hN8 hiN)).mono ?_⟩
    rintro e w1 ⟨v, P, q, rfl, own1, bfs, clo, e1⟩
    obtain ⟨ap, cp, hv, _, hxp⟩ := owns_cells own1
    subst hv
    obtain ⟨pb, hap, hpb, hc0, _⟩ := hxp z _ (rowOf_at P hzN)
    subst hap
    have hcell : ∀ k, k < N → w1.cell? ⟨pb, k, none⟩ = some (.int .i64 (P k)) := fun k hk => by
      obtain ⟨pb', hap', _, hc', _⟩ := hxp k _ (rowOf_at P hk)
      cases hap'
      exact hc'
    have HC := Lib.hid hcell
    have hDlt : D < wr.heap.size := (Array.getElem?_eq_some_iff.1 HG.out.mark).1
    have hpbD : D < pb := by omega
    have hG1 := HG.out.to e1
    have HG1 := Lib.hid hG1
    have cI1 := hG1.env.bI.cell; have cJ1 := hG1.env.bJ.cell; have cH1 := hG1.env.bH.cell
    have bfs' : Bfs (H + M) i (DC.Open H M b i j up x) P q := by
      have h1 := bfs
      rw [← HGG.out, ← HN.out] at h1
      exact h1.open HS.out HNE.out
    have clo' : Closed (H + M) (DC.Open H M b i j up x) q := by
      have h1 := clo
      rw [← HGG.out, ← HN.out] at h1
      exact h1.open HS.out HNE.out bfs'.way.lt
    have BF := Lib.hid bfs'; have CLO := Lib.hid clo'; have BF0 := Lib.hid bfs
    have hPz := bfs.bd z hzN
    obtain ⟨hPz0, hPz1⟩ := hPz
    obtain ⟨y, hy⟩ : ∃ y, P z = y := ⟨_, rfl⟩
    unfold encI at hc0
    rw [hy] at hc0 hPz0 hPz1
    have HY := Lib.hid hy
    clear hy hcell hxp own1 bfs clo bfs' clo' hG1 HG HR cI cJ cH cR
    by_cases hy0 : y < 0
    · have hout : MainOut w D H M f b i j up F w1 := by
        refine ⟨HG1.out.mark, HG1.out.ext, x, _, _, HNE.out, hF.out.own, cut_of_closed HNE.out BF.out.way CLO.out (fun hm => ?_)⟩
        have := (BF.out.mem z (by rw [HN.out]; exact hzN)).2 (by rw [← HZ.out]; exact hm)
        rw [HY.out] at this
        omega
      have HO := Lib.hid hout
      clear hout
      gi_wp2_with fail
      exact HQ.out F _ _ rfl rfl HO.out
    · have hy0' : decide (y < 0) = false := by simpa using hy0
      obtain ⟨s0, hst⟩ := BF.out.stop (p := z) (by rw [HN.out]; exact hzN) (by rw [HY.out]; omega)
      have ST := Lib.hid hst; clear hst hy0
      rw [HN.out] at ST
      gi_wp2_with fail
      gi_loopg [20, 21] s0 (fun g e p w2 => ∃ (s p' : Nat) (E : Int), g = s ∧ e = .int .i64 E ∧ p = .int .i64 p' ∧ p' < N ∧ Hid (Stop N q s p') ∧ 1 ≤ E ∧ E ≤ 3168 ∧ Hid (Onto G P i z E p') ∧ Ext w1 w2)
      case atStart => exact ⟨s0, z, 3168, rfl, rfl, rfl, hzN, ST.out, by omega, by omega, Onto.start, Ext.refl _⟩
      case round =>
        obtain ⟨s, p, E, rfl, rfl, rfl, hpN, hst, hE1, hE2, hon, hext⟩ := hrel
        have HX := Lib.hid hext
        have hG2 := HG1.out.to hext
        have cI2 := hG2.env.bI.cell
        by_cases hpi : p = i
        · subst hpi
          have HG2 := Lib.hid hG2
          clear hG2 hext cI1 cJ1 cH1 hc0
          have hpath := Lib.hid hon.out.done
          have cI3 := HG2.out.env.bI.cell; have cJ3 := HG2.out.env.bJ.cell; have cH3 := HG2.out.env.bH.cell
          have cC3 : wr.cell? ⟨pb, z, none⟩ = some (.int .i64 (P z)) := HX.out.cell (HC.out z hzN)
          have hgo := Going.start HNE.out hi hj HB.out (by rw [HN.out, HZ.out]; exact ST.out) (by rw [HZ.out, HGG.out]; exact hpath.out)
          rw [HZ.out] at hgo
          have GO := Lib.hid hgo
          have HG3 : Hid (Grow wr w n0 p11 p13 D vt vm p j up H N ar cr B vs (roomG H f b p j up (upd x p j (x p j + sgn up E)))) := by
            have := HG2.out
            rw [← HGG.out, ← roomG_own (x p j + sgn up E)] at this
            exact this
          have HFR := Lib.hid (HX.out.block pb (World.block_lt_of_cell? _ _ (HC.out z hzN)))
          clear hgo HG2
          gi_wp2_with fail
          clear cI3 cJ3 cH3 cC3
          gi_loopg [22] s0 (fun g v w3 => ∃ (s p' : Nat) (X : Nat → Nat → Int), g = s ∧ v = .int .i64 p' ∧ p' < N ∧ Hid (Going H M f b p j up x P q E s p' X) ∧ Grow w3 w n0 p11 p13 D vt vm p j up H N ar cr B vs (roomG H f b p j up X) ∧ Hid (w3.heap[pb]? = w1.heap[pb]?))
          case atStart => exact ⟨s0, z, _, rfl, rfl, hzN, GO.out, HG3.out, HFR.out⟩
          case round =>
            clear GO HG3 HFR
            obtain ⟨s, p', X, rfl, rfl, hpN, hgo, hg3, hfr⟩ := hrel
            have cI3 := hg3.env.bI.cell
            by_cases hpi : p' = p
            · subst hpi
              have hdone := hgo.out.done hF.out hi (by omega)
              have HD := Lib.hid hdone
              have hbd := hdone.bd HS.out hi hj m4
              have hbp := hdone.pos
              have HG3 := Lib.hid hg3
              clear hdone hg3
              gi_wp2_with fail
              gi_roundg ((2000 - (F + E)).toNat)
              case measure => omega
              case rel => exact ⟨F + E, X, rfl, rfl, HD.out, HG3.out⟩
            · have hpib : ((p' : Int) != (p : Int)) = true := by rw [bne_iff_ne]; omega
              obtain ⟨t, u, X', hts, huN0, hup, hPu, hr1, hr2, hr3, hr4, hroom, hgo'⟩ := hgo.out.step HS.out HNE.out BF.out hpi (by omega)
              have huN : u < N := by rw [← HN.out]; exact huN0
              have cP := (World.cell?_of_block (w := w1) (a := ⟨pb, p', none⟩) hfr.out).trans (HC.out p' hpN)
              rw [hPu] at cP
              have huz : (u : Int) < (N : Int) := by omega
              have hpz : (p' : Int) < (N : Int) := by omega
              obtain ⟨o, c', g, ck, ev, _, co, _, _, hvs, cg, fg, _⟩ := hg3.own.atC (i := u) (j := p') huN hpN
              cases ev
              have cR3 := hg3.env.bR.cell
              obtain ⟨r1, hr⟩ : ∃ r, roomG H f b p j up X u p' = r := ⟨_, rfl⟩
              obtain ⟨r2, hrr⟩ : ∃ r, roomG H f b p j up X p' u = r := ⟨_, rfl⟩
              rw [hr] at cg hr1 hr3 hroom
              rw [hrr] at hr2 hr4 hroom
              obtain ⟨hgB, hg13⟩ : B ≤ g ∧ g < p13 := by
                obtain ⟨hk, e⟩ := List.getElem?_eq_some_iff.1 hvs
                exact HIN.out u hk g (by rw [e]; rfl)
              have hw1 : IntKind.i64.wrap (r1 - E) = r1 - E := IntWalk.i64_in _ (by omega)
              have hgs := (hg3.to ((Ext.refl _).drew)).set (p := p') huN hvs (r1 - E) (by omega) (by omega) (by omega) (by omega) (by omega)
              have HGS := Lib.hid hgs
              have hfr2 : ((wr.drew).setCell ⟨g, p', none⟩ (encI (r1 - E))).heap[pb]? = w1.heap[pb]? := (Below.heap_setCell _ ⟨g, p', none⟩ _ pb (by show pb ≠ g; omega)).trans hfr.out
              have HFR2 := Lib.hid hfr2
              have HRM := Lib.hid hroom; have GO' := Lib.hid hgo'; have HPU := Lib.hid hPu
              have HR1 := Lib.hid hr; have HR2 := Lib.hid hrr
              unfold encI at cg HGS HFR2
              clear hgs hfr2 hroom hgo' hPu hg3 hvs hr hrr hgo hfr
              gi_wp2_with fail
              refine wpW_still_tail 13 hmix (by kernel_rfl) (by kernel_rfl) ?_
              simp only [List.take_succ_cons, List.take_zero, List.drop_succ_cons, List.drop_zero]
              repeat still_step
              refine wpStill_nil ?_
              go_wp2_with fail
              refine noOut_normal ?_
              change Exit.then _ _ _ _ ((World.drew wr).setCell ⟨g, p', none⟩ (.int .i64 (r1 - E)))
              obtain ⟨W2, hW2⟩ : ∃ W2, (World.drew wr).setCell ⟨g, p', none⟩ (.int .i64 (r1 - E)) = W2 := ⟨_, rfl⟩
              rw [hW2] at HGS HFR2 ⊢
              clear hW2 hw1 cP co cR3 cg fg cI3
              have cI3 := HGS.out.env.bI.cell
              have cP := (World.cell?_of_block (w := w1) (a := ⟨pb, p', none⟩) HFR2.out).trans (HC.out p' hpN)
              rw [HPU.out] at cP
              obtain ⟨_, _, g', ck', ev, _, co, _, _, hvs, cg, fg, _⟩ := HGS.out.own.atC (i := p') (j := u) hpN huN
              cases ev
              have cR3 := HGS.out.env.bR.cell
              rw [upd_ne (fun e => hup e.2), HR2.out] at cg
              obtain ⟨hgB', hg13'⟩ : B ≤ g' ∧ g' < p13 := by
                obtain ⟨hk, e⟩ := List.getElem?_eq_some_iff.1 hvs
                exact HIN.out p' hk g' (by rw [e]; rfl)
              have hw2 : IntKind.i64.wrap (r2 + E) = r2 + E := IntWalk.i64_in _ (by omega)
              have hgs := (HGS.out.to ((Ext.refl _).drew)).set (p := u) hpN hvs (r2 + E) (by omega) (by omega) (by omega) (by omega) (by omega)
              rw [← HR1.out, ← HR2.out] at hgs
              rw [HR1.out, HR2.out, HRM.out] at hgs
              have hfr2 : ((W2.drew).setCell ⟨g', u, none⟩ (encI (r2 + E))).heap[pb]? = w1.heap[pb]? := (Below.heap_setCell _ ⟨g', u, none⟩ _ pb (by show pb ≠ g'; omega)).trans HFR2.out
              have HG4 := Lib.hid hgs; have HFR3 := Lib.hid hfr2
              unfold encI at cg HG4 HFR3
              clear hgs hfr2 hvs HGS HFR2 hgB hg13
              gi_wp2_with fail
              refine wpW_still_tail 13 hmix (by kernel_rfl) (by kernel_rfl) ?_
              simp only [List.take_succ_cons, List.take_zero, List.drop_succ_cons, List.drop_zero]
              repeat still_step
              refine wpStill_nil ?_
              go_wp2_with fail
              refine noOut_normal ?_
              gi_wp2_with fail
              gi_roundg t
              case measure => exact hts
              case rel => exact ⟨t, u, X', rfl, rfl, huN, GO'.out, HG4.out, HFR3.out⟩
        · have hpib : ((p : Int) != (i : Int)) = true := by rw [bne_iff_ne]; omega
          obtain ⟨t, u, hts, stu, hPu, hEu⟩ := hst.out.prev BF0.out hpi
          have cP := hext.cell (HC.out p hpN)
          rw [hPu] at cP
          have huN := stu.lt
          have huz : (u : Int) < (N : Int) := by omega
          have hpz : (p : Int) < (N : Int) := by omega
          obtain ⟨o, c', g, ck, ev, _, co, _, _, hvs, cg, _, _⟩ := hG2.own.atC (i := u) (j := p) huN hpN
          cases ev
          have cR2 := hG2.env.bR.cell
          obtain ⟨r, hr⟩ : ∃ r, G u p = r := ⟨_, rfl⟩
          rw [hr] at cg hEu
          have hon2 := hon.out.step hpi hPu
          rw [hr] at hon2
          have hrb : r ≤ 4000 := by
            have := room_bd (up := up) HS.out HNE.out (u := u) (v := p) (by rw [HN.out]; exact huN) (by rw [HN.out]; exact hpN)
            rw [HGG.out, hr] at this; omega
          have HO2 := Lib.hid hon2; have STU := Lib.hid stu
          unfold encI at cg
          have hEu' : 0 < r := hEu
          clear hon2 stu hext hG2 hr hPu hon hst hvs hEu cI1 cJ1 cH1 hc0
          gi_wp2_with fail
          refine wpW_still_tail 11 hmix (by kernel_rfl) (by kernel_rfl) ?_
          simp only [List.take_succ_cons, List.take_zero, List.drop_succ_cons, List.drop_zero]
          repeat still_step
          refine wpStill_nil ?_
          go_wp2_with fail
          all_goals
            refine noOut_normal ?_
            gi_wp2_with fail
            gi_roundg t
            case measure => exact hts
            case rel => exact ⟨t, u, _, rfl, rfl, rfl, huN, STU.out, by omega, by omega, by
              have h1 := HO2.out
              first
                | rwa [show min E r = r by omega] at h1
                | rwa [show min E r = E by omega] at h1, HX.out.drew⟩
end Go.Proofs.Ytelcdjbbcffliaa
