/- Whether rows fit a table: the program. -/
import Derived.Test.YtelcdjbbcffliaaFitMath
import Derived.Test.YtelcdjbbcffliaaCellsPre
import Derived.Test.YtelcdjbbcffliaaQuietRound
import Derived.Test.YtelcdjbbcffliaaSums
namespace Go.DC
open Go Go.RowKit
section
variable {F : Fence} {n : Nat} {P : Program} {fn : Func} {R : Ending → World → Prop} {tmps : Array Value} {W : World}
theorem run_loadVar_box {ty : TypeId} {d : TypeDesc} {x : Nat} {T : TypeId} {v : Value} (b : Box W x T v) (hu : P.underlying ty = some d) (hd : (match d with | .struct _ | .array _ _ => true | _ => false) = false) :
    (loadVar ty ⟨x, 0, none⟩).run P W = .ok v W := by
  have hagg : (isAgg ty).run P W = .ok false W := by
    unfold isAgg
    rw [Sem.run_bind, run_underlying hu W]
    cases d <;> simp_all
  have hc := b.cell
  simp [loadVar, Sem.run_bind, hagg, hc]
theorem results_cell1 {x : Tmp} {tx T1 : TypeId} {dx : TypeDesc} {px : Nat} {u : Value} (hr : fn.results = #[.cell x tx]) (hx : tmps.getD x undef = .pointer (some ⟨px, 0, none⟩))
    (bx : Box W px T1 u) (hux : P.underlying tx = some dx) (hdx : (match dx with | .struct _ | .array _ _ => true | _ => false) = false) :
    (results fn tmps).run P W = .ok u W := by
  have hx' : tmps[x]?.getD undef = .pointer (some ⟨px, 0, none⟩) := by simpa using hx
  simp [results, hr, hx', asAddr, run_loadVar_box bx hux hdx]
theorem leaveC1 {x : Tmp} {tx T1 : TypeId} {dx : TypeDesc} {px : Nat} {u : Value} (hr : fn.results = #[.cell x tx]) (hx : tmps.getD x undef = .pointer (some ⟨px, 0, none⟩))
    (hux : P.underlying tx = some dx) (hdx : (match dx with | .struct _ | .array _ _ => true | _ => false) = false) (bx : Box W px T1 u)
    (h : R (.returned u) W) : bodyPostM F n P fn R .ret { tmps := tmps, defers := [] } W := ⟨_, results_cell1 hr hx bx hux hdx, h⟩
theorem leaveCD1 {D : Nat} {x : Tmp} {tx T1 : TypeId} {dx : TypeDesc} {px : Nat} {u : Value} (hK : W.heap[D]? = some (.deferred (some []))) (hr : fn.results = #[.cell x tx]) (hx : tmps.getD x undef = .pointer (some ⟨px, 0, none⟩))
    (hux : P.underlying tx = some dx) (hdx : (match dx with | .struct _ | .array _ _ => true | _ => false) = false) (bx : Box W px T1 u)
    (h : R (.returned u) (W.putObj D (.deferred none))) : bodyPostM F n P fn R .ret { tmps := tmps, defers := [{ target := .collected D, args := #[] }] } W :=
  ⟨by simp, .inl ⟨_, _, rfl, run_takeDeferred hK, _, results_cell1 hr hx (bx.cel (Cel.taken hK _)) hux hdx, h⟩⟩
end
end Go.DC
namespace Go.Proofs.Ytelcdjbbcffliaa
open Go.RowKit Go.DC Go.Shelf
attribute [local go_sem] Oper.semAt_some
theorem mem_rowC {h m k l' : Nat} (hk : k < h) : ∀ (l : Nat) (hl : l ≤ m) (h' : l' < l), (⟨(k, l'), hk, Nat.lt_of_lt_of_le h' hl⟩ : Cell h m) ∈ rowCells h m k l hk hl
  | 0, _, h' => absurd h' (Nat.not_lt_zero _)
  | l + 1, hl, h' => by
    rw [rowCells_succ, List.mem_append]
    by_cases e : l' = l
    · subst e; exact .inr (List.mem_singleton.2 rfl)
    · exact .inl (mem_rowC hk l (by omega) (by omega))
theorem mem_firstC {h m k' l' : Nat} (hl : l' < m) : ∀ (k : Nat) (hk : k ≤ h) (h' : k' < k), (⟨(k', l'), Nat.lt_of_lt_of_le h' hk, hl⟩ : Cell h m) ∈ firstCells h m k hk
  | 0, _, h' => absurd h' (Nat.not_lt_zero _)
  | k + 1, hk, h' => by
    rw [firstCells, List.mem_append]
    by_cases e : k' = k
    · subst e; exact .inr (mem_rowC hk m (Nat.le_refl _) hl)
    · exact .inl (mem_firstC hl k (by omega) (by omega))
/-- Four new boxes. -/
structure BoxF (W : World) (n : Nat) (T1 T2 T3 : TypeId) (u1 u2 u3 u4 : Value) : Prop where
  b1 : Box W n T1 u1
  b2 : Box W (n + 1) T2 u2
  b3 : Box W (n + 1 + 1) T1 u3
  b4 : Box W (n + 1 + 1 + 1) T3 u4
  size : W.heap.size = n + 4
theorem boxF (w : World) (T1 T2 T3 : TypeId) (u1 u2 u3 u4 : Value) : BoxF ((((w.alloc (.cells #[u1] T1)).alloc (.cells #[u2] T2)).alloc (.cells #[u3] T1)).alloc (.cells #[u4] T3)) w.heap.size T1 T2 T3 u1 u2 u3 u4 := by
  have al : ∀ (W : World) (o : Obj), Ext W (W.alloc o) := fun W o => (Ext.refl W).alloc o
  have n1 := Box.new w T1 u1
  obtain ⟨W1, h1⟩ : ∃ W1, w.alloc (.cells #[u1] T1) = W1 := ⟨_, rfl⟩
  have s1 : W1.heap.size = w.heap.size + 1 := by rw [← h1]; simp
  rw [h1] at n1 ⊢
  have n2 := Box.new W1 T2 u2
  have m1 := n1.ext (al W1 (.cells #[u2] T2))
  rw [s1] at n2
  obtain ⟨W2, h2⟩ : ∃ W2, W1.alloc (.cells #[u2] T2) = W2 := ⟨_, rfl⟩
  have s2 : W2.heap.size = w.heap.size + 1 + 1 := by rw [← h2]; simp [s1]
  rw [h2] at n2 m1 ⊢
  have n3 := Box.new W2 T1 u3
  have e3 := al W2 (.cells #[u3] T1)
  have m1 := m1.ext e3; have m2 := n2.ext e3
  rw [s2] at n3
  obtain ⟨W3, h3⟩ : ∃ W3, W2.alloc (.cells #[u3] T1) = W3 := ⟨_, rfl⟩
  have s3 : W3.heap.size = w.heap.size + 1 + 1 + 1 := by rw [← h3]; simp [s2]
  rw [h3] at n3 m1 m2 ⊢
  have n4 := Box.new W3 T3 u4
  have e4 := al W3 (.cells #[u4] T3)
  rw [s3] at n4
  exact ⟨m1.ext e4, m2.ext e4, n3.ext e4, n4, by simp [s3]⟩
set_option maxRecDepth 10000 in
set_option maxHeartbeats 1000000 in
theorem Equal_any (a b : Option Addr) (c d n : Nat) (B B' : Nat) (F G : Nat → Int) (w : World) (hx : w.ownsRow B 3 1 (.slice a n c) n (rowOf n F)) (hy : w.ownsRow B' 3 1 (.slice b n d) n (rowOf n G)) (hn : n ≤ 1000) :
    Calls Try.prog 53 #[.slice a n c, .slice b n d] w (Ret (.bool (eqN F G n)) w) := by
  have HX := Lib.hid hx; clear hx
  have HY := Lib.hid hy; clear hy
  have hlb : ((n : Int) != (n : Int)) = false := by simp
  go_enter Try.func53, Try.ntmps53
  go_wp2_with fail
  go_loopg [13] n (fun g' i wr => ∃ k : Nat, k ≤ n ∧ g' = n - k ∧ i = .int .i64 k ∧ (∀ j, j < k → F j = G j) ∧ Ext w wr)
  case atStart => exact ⟨0, Nat.zero_le _, rfl, rfl, fun j h => absurd h (Nat.not_lt_zero _), Ext.refl _⟩
  case round =>
    obtain ⟨k, hk, rfl, rfl, hall, hext⟩ := hrel
    have HA := Lib.hid hall; clear hall
    by_cases hlt : k < n
    · have hz : (k : Int) < (n : Int) := by omega
      obtain ⟨a', c', e', _, hxx⟩ := owns_cells (owns_ext HX.out hext)
      cases e'
      obtain ⟨g1, rfl, _, hc1, _⟩ := hxx k _ (rowOf_at F hlt)
      obtain ⟨a', c', e', _, hyy⟩ := owns_cells (owns_ext HY.out hext)
      cases e'
      obtain ⟨g2, rfl, _, hc2, _⟩ := hyy k _ (rowOf_at G hlt)
      clear hxx hyy
      obtain ⟨u, hu⟩ : ∃ u, F k = u := ⟨_, rfl⟩
      obtain ⟨v, hv⟩ : ∃ v, G k = v := ⟨_, rfl⟩
      rw [hu] at hc1
      rw [hv] at hc2
      have HU := Lib.hid hu; have HV := Lib.hid hv
      clear hu hv
      unfold encI at hc1 hc2
      by_cases he : u = v
      · subst he
        have hb : (u != u) = false := by simp
        have hb2 : (u == u) = true := by simp
        go_wp2_with fail
        go_quiet (fail)
        go_wp2_with fail
        go_roundg (n - (k + 1))
        case measure => omega
        case rel => exact ⟨k + 1, by omega, rfl, by go_num, fun j hj => by
          by_cases e : j = k
          · rw [e, HU.out, HV.out]
          · exact HA.out j (by omega), hext.drewN _⟩
      · have hb : (u != v) = true := by rw [bne_iff_ne]; exact he
        have hb2 : (u == v) = false := by rw [beq_eq_false_iff_ne]; exact he
        have hne : eqN F G n = false := by
          cases e : eqN F G n with
          | false => rfl
          | true => exact absurd (eqN_iff.1 e k hlt) (by rw [HU.out, HV.out]; exact he)
        have HNE := Lib.hid hne
        clear hne
        go_wp2_with fail
        go_quiet (fail)
        go_wp2_with fail
        go_ret
        exact ⟨by rw [HNE.out]; rfl, hext.drewN _⟩
    · have hz : ¬ (k : Int) < (n : Int) := by omega
      go_wp2_with fail
      go_ret
      exact ⟨by rw [eqN_iff.2 fun j hj => HA.out j (by omega)]; rfl, hext⟩
set_option maxRecDepth 100000 in
set_option maxHeartbeats 4000000 in
theorem FitTables_any (a mb ax : Option Addr) (c d cx : Nat) (t : List (List Int)) (mk : List (List Bool)) (x : List (List Int)) (w : World) (ht : IRows w a t) (hmk : BRows w mb mk) (hx : IRows w ax x) (hm : t.length ≤ 9223372036854775807) (hm2 : mk.length ≤ 9223372036854775807) (hm3 : x.length ≤ 9223372036854775807) :
    Calls Try.prog 23 #[.slice a t.length c, .slice mb mk.length d, .slice ax x.length cx] w (Ret (.bool (fitV t mk x)) w) := by
  have HT := Lib.hid ht; clear ht
  have HM := Lib.hid hmk; clear hmk
  have HX := Lib.hid hx; clear hx
  refine (callsIn_wide (n := 9)).1 ?_
  refine callsIn_of_wp_marks Try.func23 rfl trivial ?_ rfl
  simp only [Try.ntmps23, List.size_toArray, List.length_cons, List.length_nil, Nat.reduceAdd, Nat.reduceSub, Array.replicate_succ, Array.replicate_zero, List.push_toArray, List.append_toArray, List.nil_append, List.cons_append]
  gi_wp2_with fail
  have e0 : Ext w ((((w.alloc (.cells #[.slice a t.length c] 23)).alloc (.cells #[.slice mb mk.length d] 24)).alloc (.cells #[.slice ax x.length cx] 23)).alloc (.cells #[.bool false] 4)) := ((((Ext.refl w).alloc _).alloc _).alloc _).alloc _
  have x4 : BoxF _ w.heap.size 23 24 4 (.slice a t.length c) (.slice mb mk.length d) (.slice ax x.length cx) (.bool false) := boxF w _ _ _ _ _ _ _
  obtain ⟨W0, hW0⟩ : ∃ W0, (((w.alloc (.cells #[.slice a t.length c] 23)).alloc (.cells #[.slice mb mk.length d] 24)).alloc (.cells #[.slice ax x.length cx] 23)).alloc (.cells #[.bool false] 4) = W0 := ⟨_, rfl⟩
  rw [hW0] at e0 x4
  try rw [hW0]
  clear hW0
  obtain ⟨p3, h3⟩ : ∃ q, w.heap.size + 1 + 1 + 1 = q := ⟨_, rfl⟩
  rw [h3]
  obtain ⟨p2, h2⟩ : ∃ q, w.heap.size + 1 + 1 = q := ⟨_, rfl⟩
  rw [h2]
  obtain ⟨p1, h1⟩ : ∃ q, w.heap.size + 1 = q := ⟨_, rfl⟩
  rw [h1]
  obtain ⟨p0, h0⟩ : ∃ q, w.heap.size = q := ⟨_, rfl⟩
  have d0 : Box W0 p0 23 (.slice a t.length c) := by rw [← h0]; exact x4.b1
  have d1 : Box W0 p1 24 (.slice mb mk.length d) := by rw [← h1]; exact x4.b2
  have d2 : Box W0 p2 23 (.slice ax x.length cx) := by rw [← h2]; exact x4.b3
  have d3 : Box W0 p3 4 (.bool false) := by rw [← h3]; exact x4.b4
  rw [h0]
  have HP : Hid (p0 = w.heap.size ∧ p1 = p0 + 1 ∧ p2 = p0 + 2 ∧ p3 = p0 + 3 ∧ W0.heap.size = p0 + 4) := by have := x4.size; exact ⟨by omega, by omega, by omega, by omega, by omega⟩
  clear h0 h1 h2 h3 x4
  have c0' := d0.cell; have c1' := d1.cell; have c2' := d2.cell; have c3' := d3.cell; have f3' := d3.frozen
  have D3 := Lib.hid d3
  refine ⟨trivial, (callsIn_wide.2 (MaskValid_any _ _ _ _ t mk _ (HT.out.ext e0) (HM.out.ext e0) hm hm2)).mono ?_⟩
  rintro e w' ⟨rfl, rfl⟩
  cases o1 : maskOk t mk
  · have HD := Lib.hid (fitV_no1 (x := x) o1)
    have E0 := Lib.hid e0
    clear o1 e0 d0 d1 d2 d3
    gi_wp2_with fail
    refine ⟨trivial, ?_⟩
    gi_wp2_with fail
    have q := HP.out
    exact leaveC1 rfl rfl rfl rfl (D3.out.set _) ⟨by rw [HD.out], E0.out.setCell (p := ⟨p3, 0, none⟩) (by show w.heap.size ≤ p3; omega) _⟩
  by_cases o2 : shape t = shape x
  case neg =>
    have HD := Lib.hid (fitV_no2 (mk := mk) o2)
    have o2b : decide (shape t = shape x) = false := decide_eq_false o2
    have O2 := Lib.hid o2b
    have E0 := Lib.hid e0
    clear o1 o2 o2b e0 d0 d1 d2 d3
    gi_wp2_with fail
    refine ⟨trivial, (callsIn_wide.2 (sameShape_any _ _ _ _ t x _ (HT.out.ext E0.out) (HX.out.ext E0.out) hm hm3)).mono ?_⟩
    rintro e w' ⟨rfl, rfl⟩
    rw [O2.out]
    gi_wp2_with fail
    have q := HP.out
    exact leaveC1 rfl rfl rfl rfl (D3.out.set _) ⟨by rw [HD.out], E0.out.setCell (p := ⟨p3, 0, none⟩) (by show w.heap.size ≤ p3; omega) _⟩
  have o2b : decide (shape t = shape x) = true := decide_eq_true o2
  have O2 := Lib.hid o2b
  have hv := fitV_at o1 o2
  obtain ⟨r1, r2⟩ := maskOk_rect o1
  obtain ⟨rt, ht1, ht4, hw1, hw4, hcell⟩ := tabOk_rect r1
  have rx := shape_rect r1 o2
  have RT := Lib.hid rt; have RM := Lib.hid r2; have RX := Lib.hid rx; have HV := Lib.hid hv; have HC := Lib.hid hcell
  have hml : mk.length = t.length := r2.1
  have hxl : x.length = t.length := rx.1
  have HML := Lib.hid hml; have HXL := Lib.hid hxl
  have hp3 : w.heap.size ≤ p3 := by have := HP.out; omega
  have HP3 := Lib.hid hp3
  obtain ⟨bad, hbad⟩ : ∃ bad, badF (get 0 t) (get false mk) (get 0 x) = bad := ⟨_, rfl⟩
  have HBAD : Hid (∀ k l, bad k l = (decide (get 0 x k l < 0) || (decide (396 < get 0 x k l) || (!get false mk k l && decide (get 0 x k l ≠ get 0 t k l))))) := fun k l => by rw [← hbad]; rfl
  have HB := Lib.hid hbad
  clear o1 o2 o2b r1 r2 rt rx hv hcell hml hxl hm2 hp3 hbad D3 f3'
  gi_wp2_with fail
  refine ⟨trivial, (callsIn_wide.2 (sameShape_any _ _ _ _ t x _ (HT.out.ext e0) (HX.out.ext e0) hm hm3)).mono ?_⟩
  rintro e w' ⟨rfl, rfl⟩
  rw [O2.out]
  gi_wp2_with fail
  refine ⟨trivial, (cellsOf_in Fence.wide _ (wide_fn _) rfl _ _ _ _).mono ?_⟩
  rintro e w2 ⟨rfl, rfl⟩
  have x2 : Ext W0 (W0.alloc (.cells #[.slice a t.length c] 23)) := (Ext.refl W0).alloc _
  have bI := Box.new W0 23 (.slice a t.length c)
  have d0 := d0.ext x2; have d1 := d1.ext x2; have d2 := d2.ext x2; have d3 := d3.ext x2
  have e2 := e0.trans x2
  have hs2 : (W0.alloc (.cells #[.slice a t.length c] 23)).heap.size = W0.heap.size + 1 := by simp
  obtain ⟨W2, hW2⟩ : ∃ W2, W0.alloc (.cells #[.slice a t.length c] 23) = W2 := ⟨_, rfl⟩
  rw [hW2] at bI d0 d1 d2 d3 e2 hs2 ⊢
  obtain ⟨p7, hp7⟩ : ∃ q, W0.heap.size = q := ⟨_, rfl⟩
  rw [hp7] at bI hs2 HP ⊢
  have hcI := bI.cell
  clear hW2 x2 e0 hs2 hp7 c0' c1' c2' c3'
  gi_wp2_with fail
  refine wpIn_cells (by omega) w p7 t.length (wide t) a c t HT.out RT.out (by omega) (by omega) rfl e2 hcI rfl
    (fun pre W => Box W p0 23 (.slice a t.length c) ∧ Box W p1 24 (.slice mb mk.length d) ∧ Box W p2 23 (.slice ax x.length cx) ∧ Box W p3 4 (.bool false) ∧ ∀ y ∈ pre, bad y.1.1 y.1.2 = false)
    (fun cc pre W => cc = .ret ∧ Box W p3 4 (.bool false) ∧ ∃ k l, k < t.length ∧ l < wide t ∧ bad k l = true)
    (fun pre A B hs k => ⟨hs.1.cel k, hs.2.1.cel k, hs.2.2.1.cel k, hs.2.2.2.1.cel k, hs.2.2.2.2⟩)
    (fun cc pre A B hs k => ⟨hs.1, hs.2.1.cel k, hs.2.2⟩)
    ⟨d0, d1, d2, d3, fun y hy => by cases hy⟩
    ?round ?done ?stop
  case round =>
    clear d0 d1 d2 d3 hcI bI
    intro l x' W K hK
    have HK := Lib.hid hK; clear hK
    gi_wp2_with fail
    refine HK.out _ ?_
    clear HK K
    rintro l' pre W' ⟨b0, b1, b2, b3, hpre⟩ hE hlt
    obtain ⟨⟨k, l⟩, hk, hl⟩ := x'
    dsimp only at hk hl ⊢
    obtain ⟨_, _, tb2, tf2, tk2, rfl, ct1, ct2⟩ := (HT.out.ext hE).atC 0 RT.out hk hl
    obtain ⟨_, _, mb2, mf2, mk2, rfl, cm1, cm2⟩ := (HM.out.ext hE).atC false RM.out hk hl
    obtain ⟨_, _, xb2, xf2, xk2, rfl, cx1, cx2⟩ := (HX.out.ext hE).atC 0 RX.out hk hl
    have hkz : (k : Int) < (t.length : Int) := by omega
    have hkm : (k : Int) < (mk.length : Int) := by have := HML.out; omega
    have hkx : (k : Int) < (x.length : Int) := by have := HXL.out; omega
    have hlz : (l : Int) < (wide t : Int) := by omega
    have cb0 := b0.cell; have cb1 := b1.cell; have cb2 := b2.cell; have cb3 := b3.cell; have fb3 := b3.frozen
    have B0 := Lib.hid b0; have B1 := Lib.hid b1; have B2 := Lib.hid b2; have B3 := Lib.hid b3; have HEE := Lib.hid hE; have HPRE := Lib.hid hpre
    have HBK := Lib.hid (HBAD.out k l)
    have happ : Hid (bad k l = false → ∀ y ∈ pre ++ [(⟨(k, l), hk, hl⟩ : Cell t.length (wide t))], bad y.1.1 y.1.2 = false) := fun h y hy => by
      rcases List.mem_append.1 hy with h1 | h1
      · exact HPRE.out y h1
      · rw [List.mem_singleton.1 h1]; exact h
    have hst0 : Stp w.heap.size W2.heap.size W' W' := Stp.refl _ _ _
    have HST0 := Lib.hid hst0
    clear b0 b1 b2 b3 hE hpre hst0
    obtain ⟨xv, hxv⟩ : ∃ z, get 0 x k l = z := ⟨_, rfl⟩
    obtain ⟨tv, htv⟩ : ∃ z, get 0 t k l = z := ⟨_, rfl⟩
    obtain ⟨bv, hbv⟩ : ∃ z, get false mk k l = z := ⟨_, rfl⟩
    rw [hxv] at cx2 HBK
    rw [htv] at ct2 HBK
    rw [hbv] at cm2 HBK
    unfold encI at ct2 cx2
    unfold encB at cm2
    clear hxv htv hbv
    by_cases g1 : xv < 0
    · have hyes : bad k l = true := by rw [HBK.out, decide_eq_true g1]; rfl
      have HYES := Lib.hid hyes
      have g1b : decide (xv < 0) = true := decide_eq_true g1
      clear hyes
      gi_wp2_with fail
      refine Go.DC.wpIn_region_quiet_litR (by kernel_rfl) (by kernel_rfl) (by kernel_rfl) ?_
      repeat (gi_big_quiet_step (fail))
      refine wpQuietIn_nil ?_
      intro _ hw'
      obtain ⟨nq, hw''⟩ := hw'
      subst hw''
      gi_wp2_with fail
      have hst := (HST0.out.drewN nq).setCell (p := ⟨p3, 0, none⟩) HP3.out (.bool false)
      exact ⟨hst.from_, ⟨rfl, (B3.out.ext ((Ext.refl _).drewN nq)).set _, k, l, hk, hl, HYES.out⟩, (HEE.out.drewN nq).setCell (p := ⟨p3, 0, none⟩) HP3.out _⟩
    have g1b : decide (xv < 0) = false := decide_eq_false g1
    by_cases g2 : 396 < xv
    · have hyes : bad k l = true := by rw [HBK.out, decide_eq_true g2, Bool.true_or, Bool.or_true]
      have HYES := Lib.hid hyes
      have g2b : decide (396 < xv) = true := decide_eq_true g2
      clear hyes
      gi_wp2_with fail
      refine Go.DC.wpIn_region_quiet_litR (by kernel_rfl) (by kernel_rfl) (by kernel_rfl) ?_
      repeat (gi_big_quiet_step (fail))
      refine wpQuietIn_nil ?_
      intro _ hw'
      obtain ⟨nq, hw''⟩ := hw'
      subst hw''
      gi_wp2_with fail
      have hst := (HST0.out.drewN nq).setCell (p := ⟨p3, 0, none⟩) HP3.out (.bool false)
      exact ⟨hst.from_, ⟨rfl, (B3.out.ext ((Ext.refl _).drewN nq)).set _, k, l, hk, hl, HYES.out⟩, (HEE.out.drewN nq).setCell (p := ⟨p3, 0, none⟩) HP3.out _⟩
    have g2b : decide (396 < xv) = false := decide_eq_false g2
    cases bv with
    | true =>
      have hno : bad k l = false := by rw [HBK.out, g1b, g2b]; rfl
      have HNO := Lib.hid hno
      clear hno
      gi_wp2_with fail
      refine Go.DC.wpIn_region_quiet_litR (by kernel_rfl) (by kernel_rfl) (by kernel_rfl) ?_
      repeat (gi_big_quiet_step (fail))
      refine wpQuietIn_nil ?_
      intro _ hw'
      obtain ⟨nq, hw''⟩ := hw'
      subst hw''
      gi_wp2_with fail
      have hst := HST0.out.drewN nq
      have ex : Ext W' (W'.drewN nq) := (Ext.refl _).drewN nq
      exact ⟨hst.from_, hst.below, ⟨B0.out.ext ex, B1.out.ext ex, B2.out.ext ex, B3.out.ext ex, happ.out HNO.out⟩, HEE.out.drewN nq⟩
    | false =>
      by_cases g3 : xv = tv
      · have hno : bad k l = false := by rw [HBK.out, g1b, g2b, g3]; simp
        have HNO := Lib.hid hno
        subst g3
        have g3b : (xv != xv) = false := by simp
        have g3c : (xv == xv) = true := by simp
        clear hno
        gi_wp2_with fail
        refine Go.DC.wpIn_region_quiet_litR (by kernel_rfl) (by kernel_rfl) (by kernel_rfl) ?_
        repeat (gi_big_quiet_step (fail))
        refine wpQuietIn_nil ?_
        intro _ hw'
        obtain ⟨nq, hw''⟩ := hw'
        subst hw''
        gi_wp2_with fail
        have hst := HST0.out.drewN nq
        have ex : Ext W' (W'.drewN nq) := (Ext.refl _).drewN nq
        exact ⟨hst.from_, hst.below, ⟨B0.out.ext ex, B1.out.ext ex, B2.out.ext ex, B3.out.ext ex, happ.out HNO.out⟩, HEE.out.drewN nq⟩
      · have hyes : bad k l = true := by rw [HBK.out, g1b, g2b, decide_eq_true (show xv ≠ tv from g3)]; rfl
        have HYES := Lib.hid hyes
        have g3b : (xv != tv) = true := by rw [bne_iff_ne]; exact g3
        have g3c : (xv == tv) = false := by rw [beq_eq_false_iff_ne]; exact g3
        clear hyes
        gi_wp2_with fail
        refine Go.DC.wpIn_region_quiet_litR (by kernel_rfl) (by kernel_rfl) (by kernel_rfl) ?_
        repeat (gi_big_quiet_step (fail))
        refine wpQuietIn_nil ?_
        intro _ hw'
        obtain ⟨nq, hw''⟩ := hw'
        subst hw''
        gi_wp2_with fail
        have hst := (HST0.out.drewN nq).setCell (p := ⟨p3, 0, none⟩) HP3.out (.bool false)
        exact ⟨hst.from_, ⟨rfl, (B3.out.ext ((Ext.refl _).drewN nq)).set _, k, l, hk, hl, HYES.out⟩, (HEE.out.drewN nq).setCell (p := ⟨p3, 0, none⟩) HP3.out _⟩
  case done =>
    rintro D W hD ⟨b0, b1, b2, b3, hall⟩ hE hK
    have hno : ∀ k l, k < t.length → l < wide t → badF (get 0 t) (get false mk) (get 0 x) k l = false := fun k l hk hl => by
      rw [HB.out]; exact hall (⟨(k, l), hk, hl⟩ : Cell t.length (wide t)) (mem_firstC hl t.length (Nat.le_refl _) hk)
    have hgood := fitF_good hno
    have HG := Lib.hid (HV.out.trans hgood)
    have hxb : ∀ i j, i < t.length → j < wide t → -1000000 ≤ get 0 x i j ∧ get 0 x i j ≤ 1000000 := fun i j hi hj => by have := badF_no (hno i j hi hj); omega
    have htb : ∀ i j, i < t.length → j < wide t → -1000000 ≤ get 0 t i j ∧ get 0 t i j ≤ 1000000 := fun i j hi hj => by have := HC.out i j hi hj; omega
    have HXB := Lib.hid hxb; have HTB := Lib.hid htb
    have hDw : w.heap.size ≤ D := by have := e2.size; omega
    have cb0 := b0.cell; have cb2 := b2.cell
    have B2 := Lib.hid b2; have B3 := Lib.hid b3; have HEE := Lib.hid hE; have HKK := Lib.hid hK; have HDW := Lib.hid hDw
    have hDlt : D < W.heap.size := (Array.getElem?_eq_some_iff.1 hK).1
    clear d0 d1 d2 d3 hcI bI b0 b1 b2 b3 hall hno hgood hxb htb hE hK hDw
    gi_wp2_with fail
    refine ⟨trivial, (callsIn_wide.2 (sumsOf_any a c t.length (wide t) t W (HT.out.ext HEE.out) RT.out ht1 ht4 hw1 hw4 HTB.out)).mono ?_⟩
    rintro e w5 ⟨v1, v2, rfl, o1, o2, e5⟩
    obtain ⟨r1, k1, rfl, _, _⟩ := owns_cells o1
    obtain ⟨r2, k2, rfl, _, _⟩ := owns_cells o2
    have O1 := Lib.hid o1; have O2' := Lib.hid o2; have E5 := Lib.hid e5
    have cb2 := (B2.out.ext e5).cell
    clear o1 o2 e5 cb0
    gi_wp2_with fail
    refine ⟨trivial, (callsIn_wide.2 (sumsOf_any ax cx t.length (wide t) x w5 (HX.out.ext (HEE.out.trans E5.out)) RX.out ht1 ht4 hw1 hw4 HXB.out)).mono ?_⟩
    rintro e w6 ⟨v3, v4, rfl, o3, o4, e6⟩
    obtain ⟨r3, k3, rfl, _, _⟩ := owns_cells o3
    obtain ⟨r4, k4, rfl, _, _⟩ := owns_cells o4
    have O3 := Lib.hid o3; have O4 := Lib.hid o4; have E6 := Lib.hid e6
    have EQ1 : Hid (∀ wx : World, Ext w6 wx → Calls Try.prog 53 #[.slice r1 t.length k1, .slice r3 t.length k3] wx (Ret (.bool (eqN (fun k => sumN (wide t) (get 0 t k)) (fun k => sumN (wide t) (get 0 x k)) t.length)) wx)) := fun wx ex =>
      Equal_any r1 r3 k1 k3 t.length _ _ _ _ wx (owns_ext O1.out (E6.out.trans ex)) (owns_ext O3.out ex) (by omega)
    have EQ2 : Hid (∀ wx : World, Ext w6 wx → Calls Try.prog 53 #[.slice r2 (wide t) k2, .slice r4 (wide t) k4] wx (Ret (.bool (eqN (fun l => sumN t.length (fun k => get 0 t k l)) (fun l => sumN t.length (fun k => get 0 x k l)) (wide t))) wx)) := fun wx ex =>
      Equal_any r2 r4 k2 k4 (wide t) _ _ _ _ wx (owns_ext O2'.out (E6.out.trans ex)) (owns_ext O4.out ex) (by omega)
    obtain ⟨q1, hq1⟩ : ∃ q, eqN (fun k => sumN (wide t) (get 0 t k)) (fun k => sumN (wide t) (get 0 x k)) t.length = q := ⟨_, rfl⟩
    obtain ⟨q2, hq2⟩ : ∃ q, eqN (fun l => sumN t.length (fun k => get 0 t k l)) (fun l => sumN t.length (fun k => get 0 x k l)) (wide t) = q := ⟨_, rfl⟩
    rw [hq1] at EQ1 HG
    rw [hq2] at EQ2 HG
    have hEw := (HEE.out.trans E5.out).trans E6.out
    have HEW := Lib.hid hEw
    have b3' := (B3.out.ext E5.out).ext E6.out
    have cb3 := b3'.cell; have fb3 := b3'.frozen
    have B33 := Lib.hid b3'
    have hK6 : Hid (w6.heap[D]? = some (.deferred (some []))) := (E6.out.block D (Nat.lt_of_lt_of_le hDlt E5.out.size)).trans ((E5.out.block D hDlt).trans HKK.out)
    clear o3 o4 e6 hq1 hq2 hEw b3' cb2
    have hDp : ¬ D = p3 := fun e => by
      have h1 := HKK.out
      have h2 : W.heap[p3]? = some (.cells #[.bool false] 4) := B3.out
      rw [e, h2] at h1
      cases h1
    cases q1 with
    | false =>
      gi_wp2_with fail
      refine ⟨trivial, (callsIn_wide.2 (EQ1.out w6 (Ext.refl _))).mono ?_⟩
      rintro e w7 ⟨rfl, e7⟩
      have b3' := B33.out.ext e7
      have cb3 := b3'.cell; have fb3 := b3'.frozen
      have B37 := Lib.hid b3'
      have hK7 := (e7.block D (Array.getElem?_eq_some_iff.1 hK6.out).1).trans hK6.out
      have HK7 := Lib.hid hK7; have E7 := Lib.hid e7
      clear b3' hK7 e7
      gi_wp2_with fail
      refine ⟨trivial, ?_⟩
      gi_wp2_with fail
      have hK8 : (w7.setCell ⟨p3, 0, none⟩ (.bool false)).heap[D]? = some (.deferred (some [])) := (Below.heap_setCell w7 ⟨p3, 0, none⟩ (.bool false) D hDp).trans HK7.out
      exact leaveCD1 hK8 rfl rfl rfl rfl (B37.out.set _) ⟨by rw [HG.out]; rfl, ((HEW.out.trans E7.out).setCell (p := ⟨p3, 0, none⟩) HP3.out _).taken HDW.out _⟩
    | true =>
      gi_wp2_with fail
      refine ⟨trivial, (callsIn_wide.2 (EQ1.out w6 (Ext.refl _))).mono ?_⟩
      rintro e w7 ⟨rfl, e7⟩
      have E7 := Lib.hid e7
      clear e7
      gi_wp2_with fail
      refine ⟨trivial, (callsIn_wide.2 (EQ2.out w7 E7.out)).mono ?_⟩
      rintro e w8 ⟨rfl, e8⟩
      have E78 := Lib.hid (E7.out.trans e8)
      have b3' := B33.out.ext E78.out
      have cb3 := b3'.cell; have fb3 := b3'.frozen
      have B37 := Lib.hid b3'
      have hK7 := (E78.out.block D (Array.getElem?_eq_some_iff.1 hK6.out).1).trans hK6.out
      have HK7 := Lib.hid hK7
      clear b3' hK7 e8
      gi_wp2_with fail
      have hK8 : (w8.setCell ⟨p3, 0, none⟩ (.bool q2)).heap[D]? = some (.deferred (some [])) := (Below.heap_setCell w8 ⟨p3, 0, none⟩ (.bool q2) D hDp).trans HK7.out
      exact leaveCD1 hK8 rfl rfl rfl rfl (B37.out.set _) ⟨by rw [HG.out]; rfl, ((HEW.out.trans E78.out).setCell (p := ⟨p3, 0, none⟩) HP3.out _).taken HDW.out _⟩
  case stop =>
    rintro D cc pre W hD ⟨rfl, b3, k, l, hk, hl, hbd⟩ hE hK
    have hDw : w.heap.size ≤ D := by have := e2.size; omega
    have hno := fitF_bad (b := get false mk) (f := get 0 t) (y := get 0 x) hk hl (by rw [HB.out]; exact hbd)
    have HNO := Lib.hid (HV.out.trans hno)
    have B3 := Lib.hid b3
    clear d0 d1 d2 d3 hcI bI b3 hno hbd
    gi_wp2_with fail
    exact leaveCD1 hK rfl rfl rfl rfl B3.out ⟨by rw [HNO.out], hE.taken hDw _⟩
end Go.Proofs.Ytelcdjbbcffliaa
