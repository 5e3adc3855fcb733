/- A round of impl.shift's first loop. No conditions. -/
import Derived.Test.YtelcdjbbcffliaaShiftPut
namespace Go.Proofs.Ytelcdjbbcffliaa
open Go.RowKit Go.DC Go.Shelf
attribute [local go_sem] Oper.semAt_some
noncomputable def roundCode : Code := ((Try.f43.body.bind rangeBody).getD .skip)
/-- What a round hands on. -/
def RoundOut (D : Nat) (w W' : World) (p11 p13 : Nat) (vt vm : Value) (i j : Nat) (up : Bool) (H N B : Nat) (vr : Value) (vs : List Value) (R : Nat → Nat → Int) (W : World) : Prop :=
  KeepsFrom D W' W ∧ Below w.heap.size W' W ∧ (Env W w.heap.size p11 p13 vt vm i j up H vr ∧ OwnI W B vr vs (tabOf N N R)) ∧ Ext w W
set_option maxRecDepth 1000000 in
set_option maxHeartbeats 16000000 in
theorem round_any (u0 u1 u2 u3 u4 u10 u12 u16 u17 u18 u19 u20 u21 u22 u23 u24 u25 u26 u27 u28 u29 u30 u31 u32 u33 u34 u35 u36 u37 u38 u39 u40 u41 u42 u43 u44 u45 u46 u47 u48 u49 u50 u51 u52 u53 u54 u55 u56 u57 u58 u59 u60 u61 u62 u63 u64 u65 u66 u67 u68 u69 u70 u71 u72 u73 u74 u75 u76 u77 u78 u79 u80 u81 u82 u83 u84 u85 u86 u87 u88 u89 u90 u91 u92 u93 u94 u95 u96 u97 u98 u99 u100 u101 u102 u103 u104 u105 u106 u107 u108 u109 u110 u111 u112 u113 u114 u115 u116 u117 u118 u119 u120 u121 u122 u123 u124 u125 u126 u127 u128 u129 u130 u131 u132 u133 u134 u135 u136 u137 u138 u139 u140 u141 u142 u143 u144 u145 u146 u147 u148 u149 u150 u151 u152 u153 u154 u155 u156 u157 u158 u159 u160 u161 u162 u163 u164 u165 u166 u167 u168 u169 u170 u171 u172 u173 : Value) {ll n : Nat} {Q : Exit → Act → World → Prop} (D : Nat) (b0 off0 mb mf c d : Nat) (t : List (List Int)) (mk : List (List Bool)) (i j : Nat) (up : Bool) (w W' : World) (H M N : Nat) (f : Nat → Nat → Int) (b : Nat → Nat → Bool) (p11 p13 W6s : Nat) (ar : Option Addr) (cr : Nat) (vs : List Value) (k l : Nat) (pre : List (Cell H M)) (hk : k < H) (hl : l < M)
    (HT : Hid (IRows w (some ⟨b0, off0, none⟩) t)) (HM : Hid (BRows w (some ⟨mb, mf, none⟩) mk)) (R : Hid (Rect t H M)) (RM : Hid (Rect mk H M)) (CL : Hid (∀ i j, i < H → j < M → 0 ≤ f i j ∧ f i j ≤ 99)) (HF : Hid (get 0 t = f)) (HBF : Hid (get false mk = b))
    (h4 : H ≤ 4) (m4 : M ≤ 4) (hi : i < H) (hj : j < M) (hN : H + M = N) (hw6 : w.heap.size + 5 ≤ p11) (hs6p : p11 < W6s) (HI7 : Hid (∀ (k : Nat) (hk : k < vs.length) (g : Nat), vs[k].ownBlock = some g → W6s ≤ g ∧ g < p13))
    (env : Env W' w.heap.size p11 p13 (.slice (some ⟨b0, off0, none⟩) H c) (.slice (some ⟨mb, mf, none⟩) H d) i j up H (.slice ar N cr)) (ow : OwnI W' W6s (.slice ar N cr) vs (tabOf N N (fillG H f b i j up pre))) (hE : Ext w W')
    (hP : ∀ c a a' w, Q (.panic c) a w → Q (.panic c) a' w)
    (hQ : ∀ a W, RoundOut D w W' p11 p13 (.slice (some ⟨b0, off0, none⟩) H c) (.slice (some ⟨mb, mf, none⟩) H d) i j up H N W6s (.slice ar N cr) vs (fillG H f b i j up (pre ++ [⟨(k, l), hk, hl⟩])) W → Q .normal a W) :
    roundCode.wpIn (Fence.wide.inRound ll) n Try.prog Q ⟨#[u0, u1, u2, u3, u4, .pointer (some ⟨w.heap.size, 0, none⟩), .pointer (some ⟨w.heap.size + 1, 0, none⟩), .pointer (some ⟨w.heap.size + 1 + 1, 0, none⟩), .pointer (some ⟨w.heap.size + 1 + 1 + 1, 0, none⟩), .pointer (some ⟨w.heap.size + 1 + 1 + 1 + 1, 0, none⟩), u10, .pointer (some ⟨p11, 0, none⟩), u12, .pointer (some ⟨p13, 0, none⟩), .int .i64 (k : Int), .int .i64 (l : Int), u16, u17, u18, u19, u20, u21, u22, u23, u24, u25, u26, u27, u28, u29, u30, u31, u32, u33, u34, u35, u36, u37, u38, u39, u40, u41, u42, u43, u44, u45, u46, u47, u48, u49, u50, u51, u52, u53, u54, u55, u56, u57, u58, u59, u60, u61, u62, u63, u64, u65, u66, u67, u68, u69, u70, u71, u72, u73, u74, u75, u76, u77, u78, u79, u80, u81, u82, u83, u84, u85, u86, u87, u88, u89, u90, u91, u92, u93, u94, u95, u96, u97, u98, u99, u100, u101, u102, u103, u104, u105, u106, u107, u108, u109, u110, u111, u112, u113, u114, u115, u116, u117, u118, u119, u120, u121, u122, u123, u124, u125, u126, u127, u128, u129, u130, u131, u132, u133, u134, u135, u136, u137, u138, u139, u140, u141, u142, u143, u144, u145, u146, u147, u148, u149, u150, u151, u152, u153, u154, u155, u156, u157, u158, u159, u160, u161, u162, u163, u164, u165, u166, u167, u168, u169, u170, u171, u172, u173], []⟩ W' := by
  have HQ := Lib.hid hQ; clear hQ
  have HP := Lib.hid hP; clear hP
  have hN8 : N ≤ 8 := by omega
  conv => arg 4; whnf
  dsimp only
  obtain ⟨_, _, tb2, tf2, tk, ea, ct1, ct2⟩ := (HT.out.ext hE).atC 0 R.out hk hl
  cases ea
  obtain ⟨_, _, mb2, mf2, mk2, ea, cm1, cm2⟩ := (HM.out.ext hE).atC false RM.out hk hl
  cases ea
  rw [HF.out] at ct2
  rw [HBF.out] at cm2
  have hx := CL.out k l hk hl
  have cT := env.bT.cell; have cM := env.bM.cell; have cI := env.bI.cell; have cJ := env.bJ.cell; have cU := env.bU.cell; have cH := env.bH.cell; have cR := env.bR.cell
  have hkz : (k : Int) < (H : Int) := by omega
  have hlz : (l : Int) < (M : Int) := by omega
  have EN := Lib.hid env; have OW := Lib.hid ow; have HEE := Lib.hid hE
  clear env ow hE
  unfold encI at ct2
  unfold encB at cm2
  have skip : hid b i j k l = false → KeepsFrom D W' W' ∧ Below w.heap.size W' W' ∧ (Env W' w.heap.size p11 p13 (.slice (some ⟨b0, off0, none⟩) H c) (.slice (some ⟨mb, mf, none⟩) H d) i j up H (.slice ar N cr) ∧ OwnI W' W6s (.slice ar N cr) vs (tabOf N N (fillG H f b i j up (pre ++ [⟨(k, l), hk, hl⟩])))) ∧ Ext w W' := fun hh =>
    ⟨(Stp.refl w.heap.size _ W').from_, (Stp.refl _ D W').below, ⟨EN.out, by rw [fillG_skip pre hk hl hh]; exact OW.out⟩, HEE.out⟩
  have SK := Lib.hid skip; clear skip
  cases hf : b k l with
  | false =>
    rw [hf] at cm2
    have hh : hid b i j k l = false := by unfold hid; rw [hf]; rfl
    have HH := Lib.hid hh; clear hh hf
    gi_wp2_with fail
    exact HQ.out _ _ (SK.out HH.out)
  | true =>
    rw [hf] at cm2
    have HFB := Lib.hid hf; clear hf
    have put : hid b i j k l = true → ∃ o co g ck g' ck', ar = some ⟨o, 0, none⟩ ∧ W'.cell? ⟨o, k, none⟩ = some (.slice (some ⟨g, 0, none⟩) N ck) ∧ W'.cell? ⟨o, H + l, none⟩ = some (.slice (some ⟨g', 0, none⟩) N ck') ∧ W6s ≤ g ∧ W6s ≤ g' ∧ g < p13 ∧ g' < p13 ∧ g ≠ g' ∧ co = cr
        ∧ W'.cell? ⟨g, H + l, none⟩ = some (.int .i64 (fillG H f b i j up pre k (H + l))) ∧ W'.frozen? ⟨g, H + l, none⟩ = false ∧ W'.cell? ⟨g', k, none⟩ = some (.int .i64 (fillG H f b i j up pre (H + l) k)) ∧ W'.frozen? ⟨g', k, none⟩ = false
        ∧ OwnI ((W'.setCell ⟨g, H + l, none⟩ (.int .i64 (rc f up f k l))).setCell ⟨g', k, none⟩ (.int .i64 (DC.cr f up f k l))) W6s (.slice ar N co) vs (tabOf N N (fillG H f b i j up (pre ++ [⟨(k, l), hk, hl⟩]))) := fun hh => by
      obtain ⟨o, co, g, ck, ev, ho, co1, hg, hgo, hvs, cg, fg, _⟩ := OW.out.atC (i := k) (j := H + l) (by omega) (by omega)
      obtain ⟨o', co', g', ck', ev', _, co1', hg', hgo', hvs', cg', fg', _⟩ := OW.out.atC (i := H + l) (j := k) (by omega) (by omega)
      cases ev
      cases ev'
      obtain ⟨hkv, ekv⟩ := List.getElem?_eq_some_iff.1 hvs
      obtain ⟨hlv, elv⟩ := List.getElem?_eq_some_iff.1 hvs'
      have hgg : g ≠ g' := fun e => OW.out.apart k (H + l) hkv hlv (by omega) g (by rw [ekv]; rfl) (by rw [elv, e]; rfl)
      have s1 := OW.out.setC (j := H + l) (show k < N by omega) hvs (rc f up f k l)
      have s2 := s1.setC (j := k) (show H + l < N by omega) hvs' (DC.cr f up f k l)
      rw [fillG_put pre hk hl hh] at s2
      exact ⟨o, _, g, ck, g', ck', rfl, co1, co1', hg, hg', (HI7.out k hkv g (by rw [ekv]; rfl)).2, (HI7.out (H + l) hlv g' (by rw [elv]; rfl)).2, hgg, rfl, cg, fg, cg', fg', s2⟩
    have PUT := Lib.hid put; clear put
    obtain ⟨y, hy⟩ : ∃ y, f k l = y := ⟨_, rfl⟩
    rw [hy] at ct2 hx
    have HY := Lib.hid hy; clear hy
    obtain ⟨hx0, hx1⟩ := hx
    obtain ⟨v, hv⟩ : ∃ v, H + l = v := ⟨_, rfl⟩
    have hvc : (H : Int) + (l : Int) = (v : Int) := by omega
    have hvw : IntKind.i64.wrap (v : Int) = (v : Int) := IntWalk.i64_in _ (by omega)
    have hvN : (v : Int) < (N : Int) := by omega
    have hkN : (k : Int) < (N : Int) := by omega
    by_cases hkl : k = i ∧ l = j
    · have hh : hid b i j k l = false := by unfold hid; rw [hkl.1, hkl.2]; simp
      have HH := Lib.hid hh
      have e1 : ((k : Int) == (i : Int)) = true := by rw [hkl.1]; simp
      have e2 : ((l : Int) == (j : Int)) = true := by rw [hkl.2]; simp
      clear hh hkl
      gi_wp2_with fail
      exact HQ.out _ _ (SK.out HH.out)
    · have hh : hid b i j k l = true := hid_iff.2 ⟨HFB.out, hkl⟩
      obtain ⟨o, co, g, ck, g', ck', rfl, co1, co2, hg, hg', hgp, hgp', hgg, rfl, cg, fg, cg', fg', own2⟩ := PUT.out hh
      rw [hv] at co2 cg fg cg' own2
      have OW2 := Lib.hid own2
      clear own2 hh
      have e12 : ((k : Int) == (i : Int)) = false ∨ ((k : Int) == (i : Int)) = true ∧ ((l : Int) == (j : Int)) = false := by
        by_cases e : k = i
        · right; exact ⟨by rw [e]; simp, by have : l ≠ j := fun e2 => hkl ⟨e, e2⟩; rw [beq_eq_false_iff_ne]; omega⟩
        · left; rw [beq_eq_false_iff_ne]; omega
      have hop : g ≠ p13 := by omega
      have hop' : g' ≠ p13 := by omega
      have hop11 : g ≠ p11 := by omega
      have hop11' : g' ≠ p11 := by omega
      have hgg2 : g' ≠ g := fun e => hgg e.symm
      have hgw : w.heap.size ≤ g := by omega
      have hgw' : w.heap.size ≤ g' := by omega
      have hgn : w.heap.size + 4 < g := by omega
      have hgn' : w.heap.size + 4 < g' := by omega
      have fin : ∀ y1 y2 : Int, OwnI ((W'.setCell ⟨g, v, none⟩ (.int .i64 y1)).setCell ⟨g', k, none⟩ (.int .i64 y2)) W6s (.slice (some ⟨o, 0, none⟩) N co) vs (tabOf N N (fillG H f b i j up (pre ++ [⟨(k, l), hk, hl⟩]))) →
          KeepsFrom D W' ((W'.setCell ⟨g, v, none⟩ (.int .i64 y1)).setCell ⟨g', k, none⟩ (.int .i64 y2)).drew ∧ Below w.heap.size W' ((W'.setCell ⟨g, v, none⟩ (.int .i64 y1)).setCell ⟨g', k, none⟩ (.int .i64 y2)).drew
            ∧ (Env ((W'.setCell ⟨g, v, none⟩ (.int .i64 y1)).setCell ⟨g', k, none⟩ (.int .i64 y2)).drew w.heap.size p11 p13 (.slice (some ⟨b0, off0, none⟩) H c) (.slice (some ⟨mb, mf, none⟩) H d) i j up H (.slice (some ⟨o, 0, none⟩) N co)
              ∧ OwnI ((W'.setCell ⟨g, v, none⟩ (.int .i64 y1)).setCell ⟨g', k, none⟩ (.int .i64 y2)).drew W6s (.slice (some ⟨o, 0, none⟩) N co) vs (tabOf N N (fillG H f b i j up (pre ++ [⟨(k, l), hk, hl⟩])))) ∧ Ext w ((W'.setCell ⟨g, v, none⟩ (.int .i64 y1)).setCell ⟨g', k, none⟩ (.int .i64 y2)).drew := fun y1 y2 ho => by
        have st : Stp w.heap.size D W' ((W'.setCell ⟨g, v, none⟩ (.int .i64 y1)).setCell ⟨g', k, none⟩ (.int .i64 y2)).drew := (((Stp.refl _ _ W').setCell (p := ⟨g, v, none⟩) hgw _).setCell (p := ⟨g', k, none⟩) hgw' _).drew
        exact ⟨st.from_, st.below, ⟨((EN.out.other ⟨g, v, none⟩ _ hgn hop11 hop).other ⟨g', k, none⟩ _ hgn' hop11' hop').ext ((Ext.refl _).drew), ho.ext ((Ext.refl _).drew)⟩, ((HEE.out.setCell (p := ⟨g, v, none⟩) hgw _).setCell (p := ⟨g', k, none⟩) hgw' _).drew⟩
      have FIN := Lib.hid fin; clear fin
      cases up with
      | true =>
        have er : rc f true f k l = y := by unfold rc; rw [HY.out]; rfl
        have ec : DC.cr f true f k l = 3168 := by unfold DC.cr; simp
        rw [er, ec] at OW2
        clear er ec
        rcases e12 with e1 | ⟨e1, e2⟩
        all_goals
          gi_wp2_with fail
          refine code_to (c' := putCode9) (by kernel_rfl) ?_
          refine put9_any _ _ _ _ _ _ _ _ _ _ _ _ _ _ _ _ _ _ _ _ _ _ _ _ _ _ _ _ _ _ _ _ _ _ _ _ _ _ _ _ _ _ _ _ _ _ _ _ _ _ _ _ _ _ _ _ _ _ _ _ _ _ _ _ _ _ _ _ _ _ _ _ _ _ _ _ _ _ _ _ _ _ _ _ _ _ _ _ _ _ _ _ _ _ _ _ _ _ _ _ _ _ _ _ _ _ _ _ _ _ _ _ _ _ _ _ _ _ _ _ _ _ _ _ _ _ _ _ _ _ _ _ _ _ _ _ _ _ _ _ _ _ _ _ _ _ _ _ _ _ _ _ _ _ _ _ _ _ _ _ _ _ _ _ _ _ _ _ p11 p13 H N k l v y o g g' ck ck' co W' hvc hvw hvN hkN cH cR co1 co2 _ _ cg fg cg' fg' hgg2 hop hop' hop11 hop11' (fun _ _ _ _ h => HP.out _ _ _ _ h) (fun a => HQ.out _ _ (FIN.out _ _ OW2.out))
      | false =>
        have er : rc f false f k l = 3168 := by unfold rc; simp
        have ec : DC.cr f false f k l = y := by unfold DC.cr; rw [HY.out]; rfl
        rw [er, ec] at OW2
        clear er ec
        rcases e12 with e1 | ⟨e1, e2⟩
        all_goals
          gi_wp2_with fail
          refine code_to (c' := putCode10) (by kernel_rfl) ?_
          refine put10_any _ _ _ _ _ _ _ _ _ _ _ _ _ _ _ _ _ _ _ _ _ _ _ _ _ _ _ _ _ _ _ _ _ _ _ _ _ _ _ _ _ _ _ _ _ _ _ _ _ _ _ _ _ _ _ _ _ _ _ _ _ _ _ _ _ _ _ _ _ _ _ _ _ _ _ _ _ _ _ _ _ _ _ _ _ _ _ _ _ _ _ _ _ _ _ _ _ _ _ _ _ _ _ _ _ _ _ _ _ _ _ _ _ _ _ _ _ _ _ _ _ _ _ _ _ _ _ _ _ _ _ _ _ _ _ _ _ _ _ _ _ _ _ _ _ _ _ _ _ _ _ _ _ _ _ _ _ _ _ _ _ _ _ _ _ _ _ _ p11 p13 H N k l v y o g g' ck ck' co W' hvc hvw hvN hkN cH cR co1 co2 _ _ cg fg cg' fg' hgg2 hop hop' hop11 hop11' (fun _ _ _ _ h => HP.out _ _ _ _ h) (fun a => HQ.out _ _ (FIN.out _ _ OW2.out))
end Go.Proofs.Ytelcdjbbcffliaa
