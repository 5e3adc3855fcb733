/- The reference's steps between places. -/
import Derived.Test.YtelcdjbbcffliaaShiftFill
import Derived.Test.YtelcdjbbcffliaaTabEqI
import Derived.Test.YtelcdjbbcffliaaTabEqB
import Derived.Test.YtelcdjbbcffliaaReach
/- The reference's steps between places. -/
namespace Go.DC
/-- Whether a step may change a cell. -/
def openB (h : Nat) (b : Nat → Nat → Bool) (up : Bool) (x : Nat → Nat → Int) (u v : Nat) : Bool :=
  !(decide (u < h) == decide (v < h)) && (b (cellR u v) (cellC h u v) && (!(decide (u < h) == up) || decide (0 < x (cellR u v) (cellC h u v))))
theorem openB_iff {h m i j : Nat} {b : Nat → Nat → Bool} {up : Bool} {x : Nat → Nat → Int} {u v : Nat} (hu : u < h + m) (hv : v < h + m) (hvi : v ≠ i) (hown : ¬ (u = i ∧ v = h + j)) : openB h b up x u v = true ↔ Open h m b i j up x u v := by
  unfold openB Open
  by_cases h1 : u < h
  · by_cases h2 : v < h
    · simp [h1, h2]; omega
    · obtain ⟨e1, e2⟩ := cell_row h1 (show h ≤ v by omega)
      rw [e1, e2]
      have h3 : h ≤ v := by omega
      have h4 : ¬ h ≤ u := by omega
      have h5 : ¬ (u = i ∧ v - h = j) := fun e => hown ⟨e.1, by omega⟩
      simp only [h1, h2, h3, h4, hv, h5, decide_true, decide_false, true_and, false_and, or_false, not_false_iff]
      cases up <;> simp
  · by_cases h2 : v < h
    · obtain ⟨e1, e2⟩ := cell_col (show h ≤ u by omega) h2
      rw [e1, e2]
      have h3 : h ≤ u := by omega
      have h5 : ¬ (v = i ∧ u - h = j) := fun e => hvi e.1
      simp only [h1, h2, h3, hu, h5, decide_true, decide_false, true_and, false_and, false_or, not_false_iff]
      cases up <;> simp
    · simp [h1, h2]
end Go.DC
namespace Go.Proofs.Ytelcdjbbcffliaa
open Go.RowKit Go.DC
set_option maxHeartbeats 1000000 in
theorem l13Cell_any (h u v : Nat) (w : World) (_hh : h ≤ 4) (hu8 : u < 8) (hv8 : v < 8) (huv : (u < h ∧ h ≤ v) ∨ (v < h ∧ h ≤ u)) :
    Calls Try.prog 72 #[.int .i64 h, .int .i64 u, .int .i64 v] w fun e w' => e = .returned (.tuple #[.int .i64 (cellR u v : Nat), .int .i64 (cellC h u v : Nat)]) ∧ w = w' := by
  rcases huv with ⟨h1, h2⟩ | ⟨h1, h2⟩
  · obtain ⟨e1, e2⟩ := cell_row h1 h2
    rw [e1, e2]
    have e3 : ((v - h : Nat) : Int) = (v : Int) - (h : Int) := by omega
    rw [e3]
    clear e1 e2 e3
    have hlt : (u : Int) < (v : Int) := by omega
    have hnl : ¬ (v : Int) < (u : Int) := by omega
    go_enter Try.func72, Try.ntmps72
    go_wp2_with fail
    go_ret2
    exact ⟨rfl, rfl⟩
  · obtain ⟨e1, e2⟩ := cell_col h2 h1
    rw [e1, e2]
    have e3 : ((u - h : Nat) : Int) = (u : Int) - (h : Int) := by omega
    rw [e3]
    clear e1 e2 e3
    have hlt : (v : Int) < (u : Int) := by omega
    have hnl : ¬ (u : Int) < (v : Int) := by omega
    go_enter Try.func72, Try.ntmps72
    go_wp2_with fail
    go_ret2
    exact ⟨rfl, rfl⟩
set_option maxHeartbeats 2000000 in
theorem l13Open_any (a mb : Option Addr) (c d h m u v : Nat) (t : List (List Int)) (mk : List (List Bool)) (up : Bool) (w : World) (ht : IRows w a t) (hmk : BRows w mb mk) (hr : Rect t h m) (hrm : Rect mk h m) (h4 : h ≤ 4) (m4 : m ≤ 4) (hu : u < h + m) (hv : v < h + m) :
    Calls Try.prog 78 #[.slice a t.length c, .slice mb mk.length d, .int .i64 u, .int .i64 v, .bool up] w fun e w' => e = .returned (.bool (openB h (get false mk) up (get 0 t) u v)) ∧ w = w' := by
  have HT := Lib.hid ht; clear ht
  have HM := Lib.hid hmk; clear hmk
  have hl : t.length = h := hr.1
  have hml : mk.length = h := hrm.1
  rw [hl, hml]
  have HL := Lib.hid hl; have HML := Lib.hid hml; have R := Lib.hid hr; have RM := Lib.hid hrm
  clear hl hml hr hrm
  by_cases h1 : u < h
  · have b1 : decide ((u : Int) < (h : Int)) = true := by simpa using h1
    by_cases h2 : v < h
    · have b2 : decide ((v : Int) < (h : Int)) = true := by simpa using h2
      have hd : openB h (get false mk) up (get 0 t) u v = false := by unfold openB; simp [h1, h2]
      have HD := Lib.hid hd; clear hd
      have h1z : (u : Int) < (h : Int) := by omega
      have h2z : (v : Int) < (h : Int) := by omega
      go_enter Try.func78, Try.ntmps78
      go_wp2_with fail
      go_ret
      exact ⟨ret_bool HD.out.symm, rfl⟩
    · have hd : openB h (get false mk) up (get 0 t) u v = (get false mk u (v - h) && (!(true == up) || decide (0 < get 0 t u (v - h)))) := by
        obtain ⟨e1, e2⟩ := cell_row h1 (show h ≤ v by omega)
        unfold openB; rw [e1, e2]; simp [h1, h2]
      rw [hd]
      obtain ⟨e1, e2⟩ := cell_row h1 (show h ≤ v by omega)
      have E1 := Lib.hid e1; have E2 := Lib.hid e2
      have h1z : (u : Int) < (h : Int) := by omega
      have h2z : ¬ (v : Int) < (h : Int) := by omega
      obtain ⟨l, hl⟩ : ∃ l, v - h = l := ⟨_, rfl⟩
      rw [hl] at E2 ⊢
      have hlm : l < m := by omega
      obtain ⟨tb, tf, tb2, tf2, tk, rfl, ct1, ct2⟩ := HT.out.atC 0 R.out h1 hlm
      obtain ⟨nb, mf, mb2, mf2, mk2, rfl, cm1, cm2⟩ := HM.out.atC false RM.out h1 hlm
      have hlz : (l : Int) < (m : Int) := by omega
      obtain ⟨y, hy⟩ : ∃ y, get 0 t u l = y := ⟨_, rfl⟩
      obtain ⟨z, hz⟩ : ∃ z, get false mk u l = z := ⟨_, rfl⟩
      rw [hy] at ct2
      rw [hz] at cm2
      rw [hy, hz]
      unfold encI at ct2
      unfold encB at cm2
      clear hd e1 e2 hy hz b1 hl
      cases z <;> cases up
      all_goals
        go_enter Try.func78, Try.ntmps78
        go_wp2_with fail
        refine (l13Cell_any h u v _ h4 (by omega) (by omega) (Or.inl ⟨h1, by omega⟩)).mono ?_
        rintro e w' ⟨rfl, rfl⟩
        rw [E1.out, E2.out]
        go_wp2_with fail
        go_ret
        exact ⟨ret_bool (by simp), rfl⟩
  · have b1 : decide ((u : Int) < (h : Int)) = false := by simpa using h1
    by_cases h2 : v < h
    · have hd : openB h (get false mk) up (get 0 t) u v = (get false mk v (u - h) && (!(false == up) || decide (0 < get 0 t v (u - h)))) := by
        obtain ⟨e1, e2⟩ := cell_col (show h ≤ u by omega) h2
        unfold openB; rw [e1, e2]; simp [h1, h2]
      rw [hd]
      obtain ⟨e1, e2⟩ := cell_col (show h ≤ u by omega) h2
      have E1 := Lib.hid e1; have E2 := Lib.hid e2
      have h1z : ¬ (u : Int) < (h : Int) := by omega
      have h2z : (v : Int) < (h : Int) := by omega
      obtain ⟨l, hl⟩ : ∃ l, u - h = l := ⟨_, rfl⟩
      rw [hl] at E2 ⊢
      have hlm : l < m := by omega
      obtain ⟨tb, tf, tb2, tf2, tk, rfl, ct1, ct2⟩ := HT.out.atC 0 R.out h2 hlm
      obtain ⟨nb, mf, mb2, mf2, mk2, rfl, cm1, cm2⟩ := HM.out.atC false RM.out h2 hlm
      have hlz : (l : Int) < (m : Int) := by omega
      obtain ⟨y, hy⟩ : ∃ y, get 0 t v l = y := ⟨_, rfl⟩
      obtain ⟨z, hz⟩ : ∃ z, get false mk v l = z := ⟨_, rfl⟩
      rw [hy] at ct2
      rw [hz] at cm2
      rw [hy, hz]
      unfold encI at ct2
      unfold encB at cm2
      clear hd e1 e2 hy hz b1 hl
      cases z <;> cases up
      all_goals
        go_enter Try.func78, Try.ntmps78
        go_wp2_with fail
        refine (l13Cell_any h u v _ h4 (by omega) (by omega) (Or.inr ⟨h2, by omega⟩)).mono ?_
        rintro e w' ⟨rfl, rfl⟩
        rw [E1.out, E2.out]
        go_wp2_with fail
        go_ret
        exact ⟨ret_bool (by simp), rfl⟩
    · have hd : openB h (get false mk) up (get 0 t) u v = false := by unfold openB; simp [h1, h2]
      have HD := Lib.hid hd; clear hd
      have h1z : ¬ (u : Int) < (h : Int) := by omega
      have h2z : ¬ (v : Int) < (h : Int) := by omega
      go_enter Try.func78, Try.ntmps78
      go_wp2_with fail
      go_ret
      exact ⟨ret_bool HD.out.symm, rfl⟩
end Go.Proofs.Ytelcdjbbcffliaa

/- The reference's search for a way. -/
namespace Go.Proofs.Ytelcdjbbcffliaa
open Go.RowKit Go.DC
def qi (q : List Nat) : List Int := q.map fun (n : Nat) => (n : Int)
theorem qi_len (q : List Nat) : (qi q).length = q.length := by simp [qi]
theorem qi_app (q : List Nat) (v : Nat) : qi q ++ [(v : Int)] = qi (q ++ [v]) := by simp [qi]
theorem qi_at {q : List Nat} {k u : Nat} (h : q[k]? = some u) : ((qi q).map encI)[k]? = some (.int .i64 u) := by
  simp [qi, h, encI]
theorem rep_row (N : Nat) : (List.replicate N (-1 : Int)).map encI = rowOf N fun _ => -1 := by
  apply List.ext_getElem
  · simp [rowOf]
  · intro k h1 h2; simp [rowOf]
set_option maxRecDepth 10000 in
set_option maxHeartbeats 8000000 in
theorem l13Path_any (a mb : Option Addr) (c d h m i j : Nat) (t : List (List Int)) (mk : List (List Bool)) (up : Bool) (w : World) (ht : IRows w a t) (hmk : BRows w mb mk) (hr : Rect t h m) (hrm : Rect mk h m) (h1 : 1 ≤ h) (h4 : h ≤ 4) (m4 : m ≤ 4) (hi : i < h) (hj : j < m) :
    Calls Try.prog 71 #[.slice a t.length c, .slice mb mk.length d, .int .i64 i, .int .i64 j, .bool up] w (ReachOut (h + m) i (DC.Open h m (get false mk) i j up (get 0 t)) w) := by
  have HT := Lib.hid ht; clear ht
  have HM := Lib.hid hmk; clear hmk
  have HOP : Hid (∀ u v (wx : World), Ext w wx → u < h + m → v < h + m → Calls Try.prog 78 #[.slice a t.length c, .slice mb mk.length d, .int .i64 u, .int .i64 v, .bool up] wx fun e w' => e = .returned (.bool (openB h (get false mk) up (get 0 t) u v)) ∧ wx = w') :=
    fun u v wx e hu hv => l13Open_any a mb c d h m u v t mk up wx (HT.out.ext e) (HM.out.ext e) hr hrm h4 m4 hu hv
  have hl : t.length = h := hr.1
  have hml : mk.length = h := hrm.1
  rw [hl, hml] at HOP ⊢
  obtain ⟨b0, off0, a0, c0, rfl, hc0⟩ := HT.out.rowC hr (i := 0) (by omega)
  simp only [Nat.add_zero] at hc0
  clear hl hml hr hrm
  obtain ⟨N, hN⟩ : ∃ N, h + m = N := ⟨_, rfl⟩
  obtain ⟨z, hz⟩ : ∃ z, h + j = z := ⟨_, rfl⟩
  have hzc : (h : Int) + (j : Int) = (z : Int) := by omega
  have hNc : (h : Int) + (m : Int) = (N : Int) := by omega
  have hN8 : N ≤ 8 := by omega
  have hzN : z < N := by omega
  have hiN : i < N := by omega
  have hizN : (i : Int) < (N : Int) := by omega
  have h0z : (0 : Int) < (h : Int) := by omega
  obtain ⟨E, hE⟩ : ∃ E, DC.Open h m (get false mk) i j up (get 0 t) = E := ⟨_, rfl⟩
  have HEQ : Hid (∀ u v, u < N → v < N → v ≠ i → ¬ (u = i ∧ v = z) → (openB h (get false mk) up (get 0 t) u v = true ↔ E u v)) := fun u v hu hv hvi hown => by
    rw [← hE]; exact openB_iff (by omega) (by omega) hvi (fun e => hown ⟨e.1, by omega⟩)
  have HOWN : Hid (¬ E i z) := fun e => by
    rw [← hE] at e
    rcases e with ⟨_, _, _, _, hne, _⟩ | ⟨hc, _⟩
    · exact hne ⟨rfl, by omega⟩
    · omega
  rw [hN] at HOP ⊢
  rw [hE]
  obtain ⟨O, hO⟩ : ∃ O, openB h (get false mk) up (get 0 t) = O := ⟨_, rfl⟩
  rw [hO] at HOP HEQ
  clear hE hO hN hz HT HM
  have own0 : (w.alloc (.cells #[] 3)).ownsRow w.heap.size 3 1 (.slice (some ⟨w.heap.size, 0, none⟩) 0 0) (List.replicate 0 (-1 : Int)).length ((List.replicate 0 (-1 : Int)).map encI) := World.ownsRow_made w #[] 0 (Nat.le_refl _) (by decide) rfl
  have e0 : Ext w (w.alloc (.cells #[] 3)) := (Ext.refl w).alloc _
  have OW0 := Lib.hid own0; clear own0
  go_enter Try.func71, Try.ntmps71
  go_wp2_with fail
  go_loopg [12, 13] N (fun g p k wr => ∃ n : Nat, n ≤ N ∧ g = N - n ∧ k = .int .i64 n ∧ Hid (wr.ownsRow w.heap.size 3 1 p (List.replicate n (-1 : Int)).length ((List.replicate n (-1 : Int)).map encI)) ∧ Ext w wr)
  case atStart => exact ⟨0, Nat.zero_le _, rfl, rfl, OW0.out, e0⟩
  case round =>
    clear OW0 e0
    obtain ⟨n, hn, rfl, rfl, own, hext⟩ := hrel
    by_cases hlt : n < N
    · have hz : (n : Int) < (N : Int) := by omega
      have hone : IRow (wr.alloc (.cells #[.int .i64 (-1)] 3)) (some ⟨wr.heap.size, 0, none⟩) [-1] := one_row wr (-1)
      have own1 := owns_ext own.out ((Ext.refl wr).alloc (.cells #[.int .i64 (-1)] 3))
      have hb : (List.replicate n (-1 : Int)).length + [(-1 : Int)].length ≤ 10000000 := by simp; omega
      have hB : w.heap.size ≤ (wr.alloc (.cells #[.int .i64 (-1)] 3)).heap.size := by have := hext.size; simp; omega
      have hat : ∀ k', u12.ownBlock = some k' → w.heap.size ≤ k' := fun k' hk' => (own.out.lt k' hk').1
      have HAT := Lib.hid hat
      have HO := Lib.hid hone; have OW := Lib.hid own1; have HBB := Lib.hid hb; have HB := Lib.hid hB
      have e2 := hext.alloc (.cells #[.int .i64 (-1)] 3)
      clear hone own1 hb own hB hat
      go_wp2_with (at_builtin; refine wpList_rowI rfl (.tmp 31) (.tmp 32) rfl w.heap.size _ (List.replicate n (-1 : Int)) rfl OW.out _ _ [-1] rfl (fun h => by cases h) HO.out HBB.out HB.out ?_; intro v2 w2 hu hg _ _)
      have e3 := e2.grownNew hg HAT.out
      have hu' : w2.ownsRow w.heap.size 3 1 v2 (List.replicate (n + 1) (-1 : Int)).length ((List.replicate (n + 1) (-1 : Int)).map encI) := by
        have : List.replicate (n + 1) (-1 : Int) = List.replicate n (-1 : Int) ++ [-1] := List.replicate_succ'
        rw [this]; exact hu
      have HU := Lib.hid hu'
      clear hu hu' hg e2 OW HO
      go_wp2_with fail
      go_roundg (N - (n + 1))
      case measure => omega
      case rel => exact ⟨n + 1, by omega, rfl, by go_num, HU.out, e3⟩
    · have hz : ¬ (n : Int) < (N : Int) := by omega
      obtain rfl : n = N := by omega
      have own := own.out
      rw [rep_row, List.length_replicate] at own
      obtain ⟨ap, cp, hv, _, hxp⟩ := owns_cells own
      obtain ⟨pb, hap, hpb, hci, hfi⟩ := hxp i _ (rowOf_at _ hiN)
      subst hap
      subst hv
      have hplt : pb < wr.heap.size := World.block_lt_of_cell? _ _ hci
      have hst := (World.ownsRow.stored own i (encI i)).1
      rw [rowOf_set _ (par0 i) _ (fun k _ => by unfold par0; rfl)] at hst
      have E1 : Ext w (wr.setCell ⟨pb, i, none⟩ (encI i)) := hext.setCell (p := ⟨pb, i, none⟩) (by show w.heap.size ≤ pb; omega) _
      unfold encI at hci hst E1
      have x2 : Ext (wr.setCell ⟨pb, i, none⟩ (.int .i64 i)) ((wr.setCell ⟨pb, i, none⟩ (.int .i64 i)).alloc (.cells #[.int .i64 i] 3)) := (Ext.refl _).alloc _
      have hst2 := owns_ext hst x2
      have hwk : ((wr.setCell ⟨pb, i, none⟩ (.int .i64 i)).alloc (.cells #[.int .i64 i] 3)).ownsRow wr.heap.size 3 1 (.slice (some ⟨wr.heap.size, 0, none⟩) 1 1) (qi [i]).length ((qi [i]).map encI) := by
        have := World.ownsRow_lit (base := wr.heap.size) (e := 3) (size := 1) (wr.setCell ⟨pb, i, none⟩ (.int .i64 i)) #[.int .i64 i] 1 (by simp) (by unfold maxLen; omega) (by simp)
        simpa [qi, encI] using this
      have e2 := E1.trans x2
      have OW := Lib.hid hst2; have WK := Lib.hid hwk; have BF := Lib.hid (Bfs.start E hiN)
      clear own hxp hst E1 x2 hst2 hwk hlt
      go_wp2_with fail
      obtain ⟨B, hB⟩ : ∃ B, wr.heap.size = B := ⟨_, rfl⟩
      rw [hB] at WK hplt
      try simp only [hB]
      have hBw : w.heap.size ≤ B := by omega
      have hBs : B ≤ wr.heap.size := by omega
      clear hB
      go_loopg [14, 15] n (fun g s p wr => ∃ (k : Nat) (q : List Nat) (P : Nat → Int), k ≤ q.length ∧ g = n - k ∧ p = .int .i64 k ∧ Hid (wr.ownsRow B 3 1 s (qi q).length ((qi q).map encI)) ∧ B ≤ wr.heap.size
        ∧ Hid (wr.ownsRow w.heap.size 3 1 (.slice (some ⟨pb, 0, none⟩) n cp) n (rowOf n P)) ∧ Hid (Bfs n i E P q) ∧ Hid (∀ s (hs : s < q.length), s < k → ∀ v, v < n → E q[s] v → v ∈ q) ∧ Ext w wr)
      case atStart => exact ⟨0, [i], par0 i, Nat.zero_le _, rfl, rfl, WK.out, by simp [World.setCell]; omega, OW.out, BF.out, fun s _ h => absurd h (by omega), e2⟩
      case round =>
        clear WK OW BF e2 hci hfi hBs
        obtain ⟨k, q, P, hk, rfl, rfl, hwk, hBr, own, bfs, hcl, hext⟩ := hrel
        have hqN := bfs.out.len
        by_cases hlt : k < q.length
        · have hlz : (k : Int) < (q.length : Int) := by omega
          obtain ⟨u, hu⟩ : ∃ u, q[k]? = some u := ⟨_, List.getElem?_eq_getElem hlt⟩
          have huN : u < n := by
            have := bfs.out.way.lt q[k] (List.getElem_mem hlt)
            rw [List.getElem?_eq_getElem hlt] at hu
            cases hu; exact this
          obtain ⟨aw, cw, hv, _, _⟩ := owns_cells hwk.out
          rw [qi_len] at hv
          subst hv
          have HU := Lib.hid hu
          clear hu
          go_wp2_with fail
          go_loopg [14, 16] n (fun g s p wi => ∃ (v : Nat) (q : List Nat) (P : Nat → Int), v ≤ n ∧ g = n - v ∧ p = .int .i64 v ∧ Hid (q[k]? = some u) ∧ Hid (wi.ownsRow B 3 1 s (qi q).length ((qi q).map encI)) ∧ B ≤ wi.heap.size
            ∧ Hid (wi.ownsRow w.heap.size 3 1 (.slice (some ⟨pb, 0, none⟩) n cp) n (rowOf n P)) ∧ Hid (Bfs n i E P q) ∧ Hid (∀ s (hs : s < q.length), s < k → ∀ v, v < n → E q[s] v → v ∈ q) ∧ Hid (∀ v', v' < v → E u v' → v' ∈ q) ∧ Ext w wi)
          case atStart => exact ⟨0, q, P, Nat.zero_le _, rfl, rfl, HU.out, hwk.out, hBr, own.out, bfs.out, hcl.out, fun v h => absurd h (by omega), hext⟩
          case round =>
            clear hwk hBr own bfs hcl hext HU hlz hqN hk hlt
            obtain ⟨v, q, P, hv, rfl, rfl, hu, hwk, hBr, own, bfs, hcl, hcj, hext⟩ := hrel
            have hqN := bfs.out.len
            have hlt : k < q.length := (List.getElem?_eq_some_iff.1 hu.out).1
            have hlz : (k : Int) < (q.length : Int) := by omega
            obtain ⟨aw, cw, hvw, _, hwx⟩ := owns_cells hwk.out
            rw [qi_len] at hvw
            subst hvw
            obtain ⟨gw, rfl, hgB, hcw, _⟩ := hwx k _ (qi_at hu.out)
            clear hwx
            by_cases hvt : v < n
            · have hvz : (v : Int) < (n : Int) := by omega
              have hcp := World.ownsRow.cellAt own.out v (by simpa using hvt)
              rw [rowOf_at _ hvt] at hcp
              have hfp := World.ownsRow.frozenAt own.out v
              have hbd := bfs.out.bd v hvt
              have hmem := bfs.out.mem v hvt
              have hst := (World.ownsRow.stored own.out v (encI u)).1
              rw [rowOf_set _ (parPut P v u) _ (fun k _ => by unfold parPut; rfl)] at hst
              obtain ⟨y, hy⟩ : ∃ y, P v = y := ⟨_, rfl⟩
              rw [hy] at hcp hbd hmem
              unfold encI at hcp hst
              obtain ⟨hbd0, hbd1⟩ := hbd
              have HM := Lib.hid hmem; have HST := Lib.hid hst
              have HBR := Lib.hid hBr
              have e12 : ((u : Int) == (i : Int)) = false ∧ ¬ (u = i ∧ v = z) ∨ (((u : Int) == (i : Int)) = true ∧ ((v : Int) == (z : Int)) = false ∧ ¬ (u = i ∧ v = z)) ∨ ((u : Int) == (i : Int)) = true ∧ ((v : Int) == (z : Int)) = true ∧ u = i ∧ v = z := by
                by_cases ea : u = i
                · by_cases eb : v = z
                  · exact .inr (.inr ⟨by rw [ea]; simp, by rw [eb]; simp, ea, eb⟩)
                  · exact .inr (.inl ⟨by rw [ea]; simp, by rw [beq_eq_false_iff_ne]; omega, fun e => eb e.2⟩)
                · exact .inl ⟨by rw [beq_eq_false_iff_ne]; omega, fun e => ea e.1⟩
              have skip : (E u v → v ∈ q) → ∀ v', v' < v + 1 → E u v' → v' ∈ q := fun hh v' hv' hE => by
                by_cases e : v' = v
                · subst e; exact hh hE
                · exact hcj.out v' (by omega) hE
              have SK := Lib.hid skip
              clear hy hmem hst skip hBr
              by_cases hy0 : y < 0
              · have hnq : v ∉ q := fun h => by have := HM.out.2 h; omega
                have hvi : v ≠ i := fun e => hnq (by rw [e]; exact bfs.out.way.start)
                have HNQ := Lib.hid hnq; have HVI := Lib.hid hvi
                clear hnq hvi
                rcases e12 with ⟨ea, hno⟩ | ⟨ea, eb, hno⟩ | ⟨ea, eb, eu, ev⟩
                case inr.inr =>
                  have HUV := Lib.hid (And.intro eu ev)
                  clear eu ev
                  go_wp2_with fail
                  go_roundg (n - (v + 1))
                  case measure => omega
                  case rel => exact ⟨v + 1, q, P, by omega, rfl, by go_num, hu, hwk, HBR.out, own, bfs, hcl, SK.out (fun h => by rw [HUV.out.1, HUV.out.2] at h; exact absurd h HOWN.out), hext⟩
                all_goals
                  have HNO := Lib.hid hno
                  clear hno
                  cases hO : O u v
                  · have HOV := Lib.hid hO
                    clear hO
                    go_wp2_with fail
                    refine (HOP.out u v _ hext huN hvt).mono ?_
                    rintro e w3 ⟨rfl, rfl⟩
                    rw [HOV.out]
                    go_wp2_with fail
                    go_roundg (n - (v + 1))
                    case measure => omega
                    case rel => exact ⟨v + 1, q, P, by omega, rfl, by go_num, hu, hwk, HBR.out, own, bfs, hcl, SK.out (fun h => by have := (HEQ.out u v huN hvt HVI.out HNO.out).2 h; rw [HOV.out] at this; cases this), hext⟩
                  · have HOV := Lib.hid hO
                    clear hO
                    have hpbB : pb ≠ gw := by omega
                    have hgp : gw ≠ pb := by omega
                    have huq : u ∈ q := List.mem_of_getElem? hu.out
                    have bfs2 := bfs.out.push huq hvt HNQ.out ((HEQ.out u v huN hvt HVI.out HNO.out).1 HOV.out)
                    have x2 : Ext (wr.setCell ⟨pb, v, none⟩ (.int .i64 u)) ((wr.setCell ⟨pb, v, none⟩ (.int .i64 u)).alloc (.cells #[.int .i64 v] 3)) := (Ext.refl _).alloc _
                    have wk2 : ((wr.setCell ⟨pb, v, none⟩ (.int .i64 u)).alloc (.cells #[.int .i64 v] 3)).ownsRow B 3 1 (.slice (some ⟨gw, 0, none⟩) q.length cw) (qi q).length ((qi q).map encI) :=
                      owns_ext (owns_other hwk.out ⟨pb, v, none⟩ (.int .i64 u) (fun g hg => by cases hg; exact hgp)) x2
                    have own2 := owns_ext HST.out x2
                    have ext2 : Ext w ((wr.setCell ⟨pb, v, none⟩ (.int .i64 u)).alloc (.cells #[.int .i64 v] 3)) := (hext.setCell (p := ⟨pb, v, none⟩) (by show w.heap.size ≤ pb; omega) _).trans x2
                    have hone : IRow ((wr.setCell ⟨pb, v, none⟩ (.int .i64 u)).alloc (.cells #[.int .i64 v] 3)) (some ⟨wr.heap.size, 0, none⟩) [(v : Int)] := by
                      have := one_row (enc := encI) (te := 3) (wr.setCell ⟨pb, v, none⟩ (.int .i64 u)) (v : Int)
                      have hz' : (wr.setCell ⟨pb, v, none⟩ (.int .i64 u)).heap.size = wr.heap.size := by simp [World.setCell]
                      rw [hz'] at this
                      exact this
                    have hB2 : B ≤ ((wr.setCell ⟨pb, v, none⟩ (.int .i64 u)).alloc (.cells #[.int .i64 v] 3)).heap.size := by have := HBR.out; simp; omega
                    have hb : (qi q).length + [(v : Int)].length ≤ 10000000 := by rw [qi_len]; simp; omega
                    have WK2 := Lib.hid wk2; have OW2 := Lib.hid own2; have EX2 := Lib.hid ext2; have HO := Lib.hid hone; have HB2 := Lib.hid hB2; have HBB := Lib.hid hb; have BF2 := Lib.hid bfs2
                    clear x2 wk2 own2 ext2 hone hB2 hb bfs2 own bfs HST
                    go_wp2_with fail
                    refine (HOP.out u v _ hext huN hvt).mono ?_
                    rintro e w3 ⟨rfl, rfl⟩
                    rw [HOV.out]
                    go_wp2_with (at_builtin; refine wpList_rowI rfl (.tmp 92) (.tmp 94) rfl B _ (qi q) rfl WK2.out _ _ [(v : Int)] rfl (fun h => by cases h) HO.out HBB.out HB2.out ?_; intro v2 w2 hu2 hg2 _ _)
                    have ext3 : Ext w w2 := EX2.out.grownNew hg2 (fun k' hk' => by have : gw = k' := Option.some.inj hk'; omega)
                    have own3 : w2.ownsRow w.heap.size 3 1 (.slice (some ⟨pb, 0, none⟩) n cp) n (rowOf n (parPut P v u)) := OW2.out.kept hg2 (.inr (fun e => hpbB (Option.some.inj e)))
                    rw [qi_app] at hu2
                    have hB3 : B ≤ w2.heap.size := Nat.le_trans HB2.out hg2.size
                    have U2 := Lib.hid hu2; have O3 := Lib.hid own3; have B3 := Lib.hid hB3
                    clear hu2 own3 hg2 hB3
                    go_wp2_with fail
                    go_roundg (n - (v + 1))
                    case measure => omega
                    case rel => exact ⟨v + 1, q ++ [v], parPut P v u, by omega, rfl, by go_num, by show (q ++ [v])[k]? = some u; rw [List.getElem?_append_left hlt]; exact hu.out, U2.out, B3.out, O3.out, BF2.out, fun s hs hsd v' hv' hE' => by
                      have hs2 : s < q.length := by omega
                      rw [List.getElem_append_left hs2] at hE'
                      exact List.mem_append_left _ (hcl.out s hs2 hsd v' hv' hE'), fun v' hv' hE' => by
                      by_cases e : v' = v
                      · subst e; simp
                      · exact List.mem_append_left _ (hcj.out v' (by omega) hE'), ext3⟩
              · have hy0b : decide (y < 0) = false := by simpa using hy0
                have hq : v ∈ q := HM.out.1 (by omega)
                have HQ := Lib.hid hq
                clear hq
                rcases e12 with ⟨ea, hno⟩ | ⟨ea, eb, hno⟩ | ⟨ea, eb, eu, ev⟩
                all_goals
                  (first | clear hno | clear eu ev)
                  go_wp2_with fail
                  go_roundg (n - (v + 1))
                  case measure => omega
                  case rel => exact ⟨v + 1, q, P, by omega, rfl, by go_num, hu, hwk, HBR.out, own, bfs, hcl, SK.out (fun _ => HQ.out), hext⟩
            · have hvz : ¬ (v : Int) < (n : Int) := by omega
              go_wp2_with fail
              go_roundg (n - (k + 1))
              case measure => omega
              case rel => exact ⟨k + 1, q, P, by omega, rfl, by go_num, hwk, hBr, own, bfs, fun s hs hsd v' hv' hE' => by
                by_cases e : s = k
                · subst e
                  have e2 : q[s] = u := by have := hu.out; rw [List.getElem?_eq_getElem hs] at this; exact Option.some.inj this
                  exact hcj.out v' (by omega) (e2 ▸ hE')
                · exact hcl.out s hs (by omega) v' hv' hE', hext⟩
        · have hlz : ¬ (k : Int) < (q.length : Int) := by omega
          obtain ⟨aw, cw, hv, _, _⟩ := owns_cells hwk.out
          rw [qi_len] at hv
          subst hv
          go_wp2_with fail
          go_ret
          exact ⟨_, P, q, rfl, own.out, bfs.out, fun a ha v hv hE => by
            obtain ⟨s, hs, es⟩ := List.getElem_of_mem ha
            exact hcl.out s hs (by omega) v hv (by rw [es]; exact hE), hext⟩
end Go.Proofs.Ytelcdjbbcffliaa

/- The reference changes a cell by one, along a way. -/
namespace Go.DC
section
variable {h m : Nat} {f : Nat → Nat → Int} {b : Nat → Nat → Bool} {i j : Nat} {up : Bool} {x X : Nat → Nat → Int}
theorem Bfs.congr {N i : Nat} {E E' : Nat → Nat → Prop} {P : Nat → Int} {q : List Nat} (w : Bfs N i E P q) (he : ∀ u v, u < N → v < N → (E u v ↔ E' u v)) : Bfs N i E' P q :=
  ⟨⟨w.way.zero, w.way.lt, w.way.nodup, fun s hs' h0 => by
    obtain ⟨t, ht, hts, hp, hE⟩ := w.way.from_ s hs' h0
    exact ⟨t, ht, hts, hp, (he _ _ (w.way.lt _ (List.getElem_mem ht)) (w.way.lt _ (List.getElem_mem hs'))).1 hE⟩⟩, w.mem, w.bd⟩
theorem Closed.congr {N : Nat} {E E' : Nat → Nat → Prop} {q : List Nat} (c : Closed N E q) (hq : ∀ u ∈ q, u < N) (he : ∀ u v, u < N → v < N → (E u v ↔ E' u v)) : Closed N E' q :=
  fun u hu v hv hE => c u hu v hv ((he u v (hq u hu) hv).2 hE)
theorem open_get (u v : Nat) : Open h m b i j up (get 0 (tabOf h m x)) u v ↔ Open h m b i j up x u v := by
  unfold Open
  constructor
  · rintro (⟨h1, h2, h3, h4, h5, h6⟩ | ⟨h1, h2, h3, h4, h5, h6⟩)
    · rw [get_tabOf x h1 (show v - h < m by omega)] at h6; exact .inl ⟨h1, h2, h3, h4, h5, h6⟩
    · rw [get_tabOf x h3 (show u - h < m by omega)] at h6; exact .inr ⟨h1, h2, h3, h4, h5, h6⟩
  · rintro (⟨h1, h2, h3, h4, h5, h6⟩ | ⟨h1, h2, h3, h4, h5, h6⟩)
    · rw [← get_tabOf (d := 0) x h1 (show v - h < m by omega)] at h6; exact .inl ⟨h1, h2, h3, h4, h5, h6⟩
    · rw [← get_tabOf (d := 0) x h3 (show u - h < m by omega)] at h6; exact .inr ⟨h1, h2, h3, h4, h5, h6⟩
/-- On the way back, in the table itself. -/
structure GoBack (h m : Nat) (f : Nat → Nat → Int) (b : Nat → Nat → Bool) (i j : Nat) (up : Bool) (x : Nat → Nat → Int) (q : List Nat) (s p : Nat) (X : Nat → Nat → Int) : Prop where
  stop : Stop (h + m) q s p
  back : Back h m f b i j (sgn up 1) x X p
  old : Old h q s x X (Open h m b i j up x)
theorem GoBack.start {q : List Nat} {s : Nat} (hx : Near h m f b i j x) (hi : i < h) (hj : j < m) (hb : b i j = true) (st : Stop (h + m) q s (h + j)) : GoBack h m f b i j up x q s (h + j) (upd x i j (x i j + sgn up 1)) :=
  ⟨st, Back.begin hx hi hj hb _, Old.begin q s _⟩
theorem GoBack.step {P : Nat → Int} {q : List Nat} {s p : Nat} (g : GoBack h m f b i j up x q s p X) (hs : Small h m f) (hx : Near h m f b i j x) (w : Bfs (h + m) i (Open h m b i j up x) P q) (hne : p ≠ i) :
    ∃ t u k l, t < s ∧ u < h + m ∧ P p = (u : Int) ∧ ((u < h ∧ h ≤ p) ∨ (p < h ∧ h ≤ u)) ∧ cellR u p = k ∧ cellC h u p = l ∧ k < h ∧ l < m ∧ 0 ≤ X k l ∧ X k l ≤ 396
      ∧ GoBack h m f b i j up x q t u (upd X k l (X k l + (if u < h then -(sgn up 1) else sgn up 1))) := by
  obtain ⟨t, u, hts, st, hPu, hE⟩ := g.stop.prev w hne
  obtain ⟨hs', es⟩ := List.getElem?_eq_some_iff.1 g.stop.at_
  obtain ⟨ht', et⟩ := List.getElem?_eq_some_iff.1 st.at_
  have hE' : Open h m b i j up x q[t] q[s] := by rw [et, es]; exact hE
  have hold := g.old s hs' t ht' (Nat.le_refl _) hts hE'
  rw [et, es] at hold
  have hpl : st.lt = st.lt := rfl
  have hplt := g.stop.lt
  have key : ((u < h ∧ h ≤ p) ∨ (p < h ∧ h ≤ u)) ∧ cellR u p < h ∧ cellC h u p < m ∧ 0 ≤ x (cellR u p) (cellC h u p) ∧ x (cellR u p) (cellC h u p) ≤ 396 ∧ 0 ≤ x (cellR u p) (cellC h u p) + (if u < h then -(sgn up 1) else sgn up 1) := by
    rcases hE with ⟨a1, a2, a3, a4, a5, a6⟩ | ⟨a1, a2, a3, a4, a5, a6⟩
    · obtain ⟨e1, e2⟩ := cell_row a1 a2
      rw [e1, e2, if_pos a1]
      have ho := hx.other hs a1 (show p - h < m by omega) a5
      refine ⟨.inl ⟨a1, a2⟩, a1, by omega, ho.1, ho.2, ?_⟩
      cases up with
      | true => have := a6 rfl; unfold sgn; simp; omega
      | false => unfold sgn; simp; omega
    · obtain ⟨e1, e2⟩ := cell_col a1 a3
      rw [e1, e2, if_neg (by omega : ¬ u < h)]
      have ho := hx.other hs a3 (show u - h < m by omega) a5
      refine ⟨.inr ⟨a3, a1⟩, a3, by omega, ho.1, ho.2, ?_⟩
      cases up with
      | true => unfold sgn; simp; omega
      | false => have := a6 rfl; unfold sgn; simp; omega
  obtain ⟨k1, k2, k3, k4, k5, k6⟩ := key
  rw [← hold] at k4 k5 k6
  refine ⟨t, u, _, _, hts, st.lt, hPu, k1, rfl, rfl, k2, k3, k4, k5, st, g.back.step hE k6, ?_⟩
  have := g.old.step w.way.nodup hs' ht' hts hE' (X (cellR u p) (cellC h u p) + (if u < h then -(sgn up 1) else sgn up 1))
  rw [et, es] at this
  exact this
end
end Go.DC
namespace Go.Proofs.Ytelcdjbbcffliaa
open Go.RowKit Go.DC
/-- What changing a cell by one hands back. -/
def ChangeOut (h m : Nat) (f : Nat → Nat → Int) (b : Nat → Nat → Bool) (i j : Nat) (up : Bool) (x : Nat → Nat → Int) (B : Nat) (v : Value) (vs : List Value) (w0 : World) (e : Ending) (w' : World) : Prop :=
  ∃ (r : Bool) (X : Nat → Nat → Int), e = .returned (.bool r) ∧ OwnI w' B v vs (tabOf h m X) ∧ Ext w0 w' ∧ Near h m f b i j X ∧ ((r = true ∧ X i j = x i j + sgn up 1) ∨ (r = false ∧ X = x ∧ ∃ R C, Cut h m b i j up x R C))
set_option maxRecDepth 10000 in
set_option maxHeartbeats 8000000 in
theorem l13Change_any (ar mb : Option Addr) (cr d h m i j B : Nat) (mk : List (List Bool)) (up : Bool) (f x : Nat → Nat → Int) (vs : List Value) (w0 w : World) (hmk : BRows w0 mb mk) (hrm : Rect mk h m) (own : OwnI w B (.slice ar h cr) vs (tabOf h m x)) (e0 : Ext w0 w) (hB : w0.heap.size ≤ B)
    (h1 : 1 ≤ h) (h4 : h ≤ 4) (m4 : m ≤ 4) (hi : i < h) (hj : j < m) (hb : get false mk i j = true) (hs : Small h m f) (hx : Near h m f (get false mk) i j x) :
    Calls Try.prog 46 #[.slice ar h cr, .slice mb mk.length d, .int .i64 i, .int .i64 j, .bool up] w (ChangeOut h m f (get false mk) i j up x B (.slice ar h cr) vs w0) := by
  have HM := Lib.hid hmk; clear hmk
  have OW := Lib.hid own
  have hrows : IRows w ar (tabOf h m x) := by
    obtain ⟨a', c', hv, _, hr, _⟩ := own.rows
    rw [tabOf_length] at hv
    cases hv
    exact hr
  have HPATH := Lib.hid (l13Path_any ar mb cr d h m i j (tabOf h m x) mk up w hrows (HM.out.ext e0) (rect_tabOf h m x) hrm h1 h4 m4 hi hj)
  rw [tabOf_length] at HPATH
  have HS := Lib.hid hs; have HX := Lib.hid hx; have HB := Lib.hid hb
  have hlo : -4000 ≤ x i j ∧ x i j ≤ 4000 := by
    have a1 := hx.le_row hi hj
    have a2 := hs.1 i hi
    have a3 := hx.ge_tot (fun k l hk hl => (hs.2.2 k l hk hl).1) hi hj
    have a4 : sumN m (fun l => sumN h (fun k => f k l)) ≤ sumN m (fun _ => 396) := sumN_le fun l hl => hs.2.1 l hl
    rw [sumN_const] at a4
    omega
  obtain ⟨N, hN⟩ : ∃ N, h + m = N := ⟨_, rfl⟩
  obtain ⟨z, hz⟩ : ∃ z, h + j = z := ⟨_, rfl⟩
  have hzc : (h : Int) + (j : Int) = (z : Int) := by omega
  have hN8 : N ≤ 8 := by omega
  have hzN : z < N := by omega
  have hzn : (z : Int) < (N : Int) := by omega
  have HZ := Lib.hid hz; have HN := Lib.hid hN
  have hiz : (i : Int) < (h : Int) := by omega
  have hjz : (j : Int) < (m : Int) := by omega
  obtain ⟨o, c', g, ck, ev, hoB, co, hgB, _, hvs, cg, fg, _⟩ := own.atC (i := i) (j := j) hi hj
  cases ev
  have hset := own.setC (j := j) hi hvs (x i j + sgn up 1)
  obtain ⟨y0, hy0⟩ : ∃ y, x i j = y := ⟨_, rfl⟩
  have HY0 := Lib.hid hy0
  rw [hy0] at cg hlo
  obtain ⟨hlo0, hlo1⟩ := hlo
  have hglt : g < w.heap.size := World.block_lt_of_cell? _ _ cg
  have holt : o < w.heap.size := World.block_lt_of_cell? _ _ co
  unfold encI at cg
  have e0' := e0
  have hin : ∀ k (hk : k < vs.length) g', vs[k].ownBlock = some g' → B ≤ g' ∧ g' < w.heap.size := fun k hk g' hg' => own.inner_lt hk hg'
  have OW2 := Lib.hid hin
  clear hs hx hb hz hN hy0 own hrows hset hin
  go_enter Try.func46, Try.ntmps46
  go_wp2_with fail
  refine HPATH.out.mono ?_
  rintro e w1 ⟨v, P, q, rfl, own1, bfs, clo, e1⟩
  have bfs' := bfs.congr (fun u v _ _ => open_get u v)
  have clo' := clo.congr bfs.way.lt (fun u v _ _ => open_get u v)
  rw [HN.out] at own1
  obtain ⟨ap, cp, hv, _, hxp⟩ := owns_cells own1
  subst hv
  obtain ⟨pb, hap, hpb, hc0, _⟩ := hxp z _ (rowOf_at P hzN)
  subst hap
  have hcell : ∀ k, k < N → w1.cell? ⟨pb, k, none⟩ = some (.int .i64 (P k)) := fun k hk => by
    obtain ⟨pb', hap', _, hc', _⟩ := hxp k _ (rowOf_at P hk)
    cases hap'
    exact hc'
  have HC := Lib.hid hcell
  have BF := Lib.hid bfs'; have CLO := Lib.hid clo'
  have hPz := bfs'.bd z (by rw [HN.out]; exact hzN)
  obtain ⟨hPz0, hPz1⟩ := hPz
  obtain ⟨y, hy⟩ : ∃ y, P z = y := ⟨_, rfl⟩
  unfold encI at hc0
  rw [hy] at hc0 hPz0 hPz1
  have HY := Lib.hid hy
  have OW1 := Lib.hid (OW.out.ext e1)
  have E1 := Lib.hid (e0.trans e1)
  have co1 := e1.cell co
  have cg1 := e1.cell cg
  have fg1 := (e1.frozen cg).trans fg
  clear hy hcell hxp own1 bfs clo bfs' clo' e0 e0' e1 co cg fg OW
  by_cases hy0 : y < 0
  · have hcut := cut_of_closed HX.out BF.out.way CLO.out (fun hm => by
      have := (BF.out.mem z (by rw [HN.out]; exact hzN)).2 (by rw [← HZ.out]; exact hm)
      rw [HY.out] at this
      omega)
    have HCUT := Lib.hid hcut; clear hcut
    go_wp2_with fail
    go_ret
    exact ⟨false, x, rfl, OW1.out, E1.out, HX.out, .inr ⟨rfl, rfl, _, _, HCUT.out⟩⟩
  · have hy0' : decide (y < 0) = false := by simpa using hy0
    obtain ⟨s0, hst⟩ := BF.out.stop (p := z) (by rw [HN.out]; exact hzN) (by rw [HY.out]; omega)
    have gb := GoBack.start (up := up) HX.out hi hj HB.out (s := s0) (q := q) (by rw [HZ.out]; exact hst)
    have hset := OW1.out.setC (j := j) hi hvs (x i j + sgn up 1)
    rw [HZ.out] at gb
    rw [HY0.out] at gb hset
    have GB := Lib.hid gb; have SET := Lib.hid hset
    have hvs' := Lib.hid hvs
    clear gb hset hst hy0 hvs
    have hpbg : g < pb := by omega
    have hfr0 : ∀ z0, (w1.setCell ⟨g, j, none⟩ z0).drew.heap[pb]? = w1.heap[pb]? := fun z0 => Below.heap_setCell w1 ⟨g, j, none⟩ z0 pb (by show pb ≠ g; omega)
    have FR0 := Lib.hid hfr0
    have hx0 : Ext w0 (w1.setCell ⟨g, j, none⟩ (encI (y0 + sgn up 1))).drew := (E1.out.setCell (p := ⟨g, j, none⟩) (by show w0.heap.size ≤ g; omega) _).drew
    have X0 := Lib.hid hx0
    have hBp : ∀ k (hk : k < vs.length) g', vs[k].ownBlock = some g' → B ≤ g' ∧ g' < pb := fun k hk g' hg' => by
      have := OW2.out k hk g' hg'
      omega
    have BP := Lib.hid hBp
    clear hfr0 hx0 hBp
    have hups : (up = true ∧ sgn up 1 = 1) ∨ (up = false ∧ sgn up 1 = -1) := by cases up <;> simp [sgn]
    rcases hups with ⟨hup, hst0⟩ | ⟨hup, hst0⟩
    all_goals
      have ST := Lib.hid hst0
      clear hst0
      obtain ⟨W2, hW2⟩ : ∃ W2, W2 = (w1.setCell ⟨g, j, none⟩ (encI (y0 + sgn up 1))).drew := ⟨_, rfl⟩
      have S2 := SET.out.ext ((Ext.refl _).drew)
      have F2 := FR0.out (encI (y0 + sgn up 1))
      have Y2 := X0.out
      rw [← hW2] at S2 F2 Y2
      have SS2 := Lib.hid S2; have FF2 := Lib.hid F2; have YY2 := Lib.hid Y2
      have HW2 := Lib.hid hW2
      clear hW2 S2 F2 Y2 SET FR0 X0
      go_wp2_with fail
      go_still_tail 15, (by kernel_rfl)
      go_wp2_with fail
      have hWeq := HW2.out
      unfold encI at hWeq
      have hst := ST.out
      rw [hst] at hWeq
      rw [← hWeq]
      clear HW2 hWeq hst
      go_loopg [12] s0 (fun gg v wr => ∃ (s p : Nat) (X : Nat → Nat → Int), gg = s ∧ v = .int .i64 p ∧ p < N ∧ Hid (GoBack h m f (get false mk) i j up x q s p X) ∧ Hid (OwnI wr B (.slice (some ⟨o, 0, none⟩) h cr) vs (tabOf h m X)) ∧ Ext w0 wr ∧ Hid (wr.heap[pb]? = w1.heap[pb]?))
      case atStart => exact ⟨s0, z, _, rfl, rfl, hzN, GB.out, SS2.out, YY2.out, FF2.out⟩
      case round =>
        clear SS2 FF2 YY2 GB
        obtain ⟨s, p, X, rfl, rfl, hpN, hgb, how, hext, hfr⟩ := hrel
        by_cases hpi : p = i
        · subst hpi
          have hback := hgb.out.back
          have hn := hback.done hi
          have ho : X p j = x p j + sgn up 1 := hback.own
          have HNN := Lib.hid hn; have HOO := Lib.hid ho
          clear hback hn ho
          go_wp2_with fail
          go_ret
          exact ⟨true, X, rfl, how.out, hext, HNN.out, .inl ⟨rfl, HOO.out⟩⟩
        · have hpib : ((p : Int) != (i : Int)) = true := by rw [bne_iff_ne]; omega
          obtain ⟨t, u, k, l, hts, huN0, hPu, huv, e1, e2, hkh, hlm, hX0, hX1, hgb'⟩ := hgb.out.step HS.out HX.out BF.out hpi
          have huN : u < N := by rw [← HN.out]; exact huN0
          have cP := (World.cell?_of_block (w := w1) (a := ⟨pb, p, none⟩) hfr.out).trans (HC.out p hpN)
          rw [hPu] at cP
          have huz : (u : Int) < (N : Int) := by omega
          have hpz : (p : Int) < (N : Int) := by omega
          have hkz : (k : Int) < (h : Int) := by omega
          have hlz : (l : Int) < (m : Int) := by omega
          obtain ⟨_, c', g2, ck2, ev, _, co2, hgB2, _, hvs2, cg2, fg2, _⟩ := how.out.atC (i := k) (j := l) hkh hlm
          cases ev
          obtain ⟨_, hgp2⟩ : B ≤ g2 ∧ g2 < pb := by
            obtain ⟨hk, e⟩ := List.getElem?_eq_some_iff.1 hvs2
            exact BP.out k hk g2 (by rw [e]; rfl)
          have hset2 := how.out.setC (j := l) hkh hvs2 (X k l + (if u < h then -(sgn up 1) else sgn up 1))
          obtain ⟨r, hr⟩ : ∃ r, X k l = r := ⟨_, rfl⟩
          rw [hr] at cg2 hX0 hX1 hset2 hgb'
          unfold encI at cg2
          have hst := ST.out
          rw [hst] at hset2 hgb'
          clear hst
          have E1' := Lib.hid e1; have E2' := Lib.hid e2; have HSET2 := Lib.hid hset2; have GB2 := Lib.hid hgb'
          have hfr2 : ∀ z0, (wr.setCell ⟨g2, l, none⟩ z0).drew.heap[pb]? = w1.heap[pb]? := fun z0 => (Below.heap_setCell wr ⟨g2, l, none⟩ z0 pb (by show pb ≠ g2; omega)).trans hfr.out
          have hx2 : ∀ z0, Ext w0 (wr.setCell ⟨g2, l, none⟩ z0).drew := fun z0 => (hext.setCell (p := ⟨g2, l, none⟩) (by show w0.heap.size ≤ g2; omega) _).drew
          have FR2 := Lib.hid hfr2; have XX2 := Lib.hid hx2
          clear e1 e2 hset2 hgb' hr hPu hvs2 hfr2 hx2 how hgb
          go_wp2_with fail
          refine (l13Cell_any h u p _ h4 (by omega) (by omega) huv).mono ?_
          rintro e w3 ⟨rfl, rfl⟩
          rw [E1'.out, E2'.out]
          by_cases hu : u < h
          · have huhz : (u : Int) < (h : Int) := by omega
            rw [if_pos hu] at HSET2 GB2
            clear huv
            go_wp2_with fail
            go_still_tail 15, (by kernel_rfl)
            go_wp2_with fail
            go_roundg t
            case measure => exact hts
            case rel => exact ⟨t, u, _, rfl, rfl, huN, GB2.out, HSET2.out.ext ((Ext.refl _).drew), XX2.out _, FR2.out _⟩
          · have huhz : ¬ (u : Int) < (h : Int) := by omega
            rw [if_neg hu] at HSET2 GB2
            clear huv
            go_wp2_with fail
            go_still_tail 15, (by kernel_rfl)
            go_wp2_with fail
            go_roundg t
            case measure => exact hts
            case rel => exact ⟨t, u, _, rfl, rfl, huN, GB2.out, HSET2.out.ext ((Ext.refl _).drew), XX2.out _, FR2.out _⟩
end Go.Proofs.Ytelcdjbbcffliaa

/- The bounds of a cell, as the reference computes them. -/
namespace Go.Proofs.Ytelcdjbbcffliaa
open Go.RowKit Go.DC
set_option maxHeartbeats 2000000 in
theorem l13Ok_any (a mb : Option Addr) (c d : Nat) (t : List (List Int)) (mk : List (List Bool)) (i j : Int) (w : World) (ht : IRows w a t) (hmk : BRows w mb mk) (hm : t.length ≤ 9223372036854775807) (hm2 : mk.length ≤ 9223372036854775807) (hi : -9223372036854775808 ≤ i ∧ i ≤ 9223372036854775807) (hj : -9223372036854775808 ≤ j ∧ j ≤ 9223372036854775807) :
    Calls Try.prog 44 #[.slice a t.length c, .slice mb mk.length d, .int .i64 i, .int .i64 j] w (Ret (.bool (hasC t mk i j)) w) := by
  have HT := Lib.hid ht; clear ht
  have HM := Lib.hid hmk; clear hmk
  go_enter Try.func44, Try.ntmps44
  go_wp2_with fail
  refine (sMaskValid_any _ _ _ _ t mk _ HT.out HM.out hm hm2).mono ?_
  rintro e w1 ⟨rfl, e1⟩
  cases o1 : maskOk t mk
  · have HD := Lib.hid (hasC_no (i := i) (j := j) o1); clear o1
    go_wp2_with fail
    go_ret
    exact ⟨ret_bool HD.out.symm, e1⟩
  have O1 := Lib.hid o1; clear o1
  obtain ⟨h1, h4, m1, m4⟩ := maskOk_lens O1.out
  obtain ⟨b0, off0, a0, c0, rfl, hc0, _, _, _⟩ := (HT.out.ext e1) 0 (by omega)
  rw [← wide_eq (by omega)] at hc0
  simp only [Nat.add_zero] at hc0
  have h0z : (0 : Int) < (t.length : Int) := by omega
  have E1 := Lib.hid e1; clear e1
  cases o2 : inBt i 0 ((t.length : Int) - 1)
  · have hd : hasC t mk i j = false := Bool.eq_false_iff.2 fun h => by
      have := hasC_iff.1 h
      unfold inBt at o2
      simp at o2
      omega
    have HD := Lib.hid hd; have O2 := Lib.hid o2; clear hd o2
    go_wp2_with fail
    refine (l6InT_any _ _ _ _).mono ?_
    rintro e w2 ⟨rfl, rfl⟩
    rw [O2.out]
    go_wp2_with fail
    go_ret
    exact ⟨ret_bool HD.out.symm, E1.out⟩
  cases o3 : inBt j 0 ((wide t : Int) - 1)
  · have hd : hasC t mk i j = false := Bool.eq_false_iff.2 fun h => by
      have := hasC_iff.1 h
      unfold inBt at o3
      simp at o3
      omega
    have HD := Lib.hid hd; have O2 := Lib.hid o2; have O3 := Lib.hid o3; clear hd o2 o3
    go_wp2_with fail
    refine (l6InT_any _ _ _ _).mono ?_
    rintro e w2 ⟨rfl, rfl⟩
    rw [O2.out]
    go_wp2_with fail
    refine (l6InT_any _ _ _ _).mono ?_
    rintro e w2 ⟨rfl, rfl⟩
    rw [O3.out]
    go_wp2_with fail
    go_ret
    exact ⟨ret_bool HD.out.symm, E1.out⟩
  · have hd : hasC t mk i j = true := hasC_iff.2 (by
      unfold inBt at o2 o3
      simp at o2 o3
      exact ⟨O1.out, by omega, by omega, by omega, by omega⟩)
    have HD := Lib.hid hd; have O2 := Lib.hid o2; have O3 := Lib.hid o3; clear hd o2 o3
    go_wp2_with fail
    refine (l6InT_any _ _ _ _).mono ?_
    rintro e w2 ⟨rfl, rfl⟩
    rw [O2.out]
    go_wp2_with fail
    refine (l6InT_any _ _ _ _).mono ?_
    rintro e w2 ⟨rfl, rfl⟩
    rw [O3.out]
    go_wp2_with fail
    go_ret
    exact ⟨ret_bool HD.out.symm, E1.out⟩
set_option maxRecDepth 10000 in
set_option maxHeartbeats 4000000 in
theorem sBoundHigh_any (a mb : Option Addr) (c d : Nat) (t : List (List Int)) (mk : List (List Bool)) (i j : Int) (w : World) (ht : IRows w a t) (hmk : BRows w mb mk) (hm : t.length ≤ 9223372036854775807) (hm2 : mk.length ≤ 9223372036854775807) (hi : -9223372036854775808 ≤ i ∧ i ≤ 9223372036854775807) (hj : -9223372036854775808 ≤ j ∧ j ≤ 9223372036854775807) :
    Calls Try.prog 17 #[.slice a t.length c, .slice mb mk.length d, .int .i64 i, .int .i64 j] w (Ret (.int .i64 (highV t mk i j)) w) := by
  have HT := Lib.hid ht; clear ht
  have HM := Lib.hid hmk; clear hmk
  go_enter Try.func17, Try.ntmps17
  go_wp2_with fail
  refine (l13Ok_any _ _ _ _ t mk i j _ HT.out HM.out hm hm2 hi hj).mono ?_
  rintro e w1 ⟨rfl, e1⟩
  cases o1 : hasC t mk i j
  · have HD := Lib.hid (highV_no o1); clear o1
    go_wp2_with fail
    go_ret
    exact ⟨ret_int HD.out.symm, e1⟩
  obtain ⟨k, l, rfl, rfl, hk, hl, ok⟩ := hasC_nat o1
  have OK := Lib.hid ok
  clear o1 ok
  obtain ⟨h1, h4, m1, m4⟩ := maskOk_lens OK.out
  have R := Lib.hid (tabOk_rect (maskOk_rect OK.out).1).1
  have RM := Lib.hid (maskOk_rect OK.out).2
  have hmk2 : mk.length = t.length := RM.out.1
  have HML := Lib.hid hmk2; clear hmk2
  have hl4 : ∀ (q : Nat) (hq : q < t.length), t[q].length ≤ 2000000 := fun q hq => by rw [R.out.2 q hq]; omega
  have HL4 := Lib.hid hl4; clear hl4
  have HV := Lib.hid (highV_at OK.out hk hl)
  have hSM := small_of OK.out
  have hNE0 := (Fits.refl (b := get false mk) (maskOk_pos OK.out)).near k l
  go_wp2_with fail
  refine (l11Copy_any _ _ t _ (HT.out.ext e1) (by omega) HL4.out).mono ?_
  rintro e w2 ⟨v, vs, rfl, own, e2⟩
  have e12 := e1.trans e2
  obtain ⟨av, cv, hv, _, _, _⟩ := own.rows
  subst hv
  have own' : OwnI w2 w1.heap.size (.slice av t.length cv) vs (tabOf t.length (wide t) (get 0 t)) := by
    have := own
    rw [R.out.eq 0, tabOf_length] at this
    exact this
  have OW := Lib.hid own'; have E12 := Lib.hid e12; have HSM := Lib.hid hSM; have HNE := Lib.hid hNE0
  have hBw : w.heap.size ≤ w1.heap.size := e1.size
  obtain ⟨nb, mf, mb2, mf2, mk2, rfl, cm1, cm2⟩ := (HM.out.ext e12).atC false RM.out hk hl
  have hkz : (k : Int) < (t.length : Int) := by omega
  have hlz : (l : Int) < (wide t : Int) := by omega
  have hkm : (k : Int) < (mk.length : Int) := by have := HML.out; omega
  clear own own' e1 e2 e12 hSM hNE0
  cases hb : get false mk k l with
  | false =>
    have hv : high t.length (wide t) (get 0 t) (get false mk) k l = get 0 t k l := by unfold high; rw [hb]; rfl
    have HW := Lib.hid (HV.out.trans hv)
    unfold encB at cm2
    rw [hb] at cm2
    obtain ⟨o, c', g, ck, ev, _, co, _, _, _, cg, _, _⟩ := OW.out.atC (i := k) (j := l) hk hl
    cases ev
    unfold encI at cg
    obtain ⟨y, hy⟩ : ∃ y, get 0 t k l = y := ⟨_, rfl⟩
    rw [hy] at cg
    have HY := Lib.hid hy
    clear hb hv hy
    go_wp2_with fail
    go_loopg [10] 0 (fun g m wr => g = 0 ∧ m = .bool false ∧ w2 = wr)
    case atStart => exact ⟨rfl, rfl, rfl⟩
    case round =>
      obtain ⟨rfl, rfl, rfl⟩ := hrel
      go_wp2_with fail
      go_ret
      exact ⟨ret_int (by rw [HW.out, HY.out]), E12.out⟩
  | true =>
    have HB := Lib.hid hb
    unfold encB at cm2
    rw [hb] at cm2
    have hfin : ∀ x R' C, Near t.length (wide t) (get 0 t) (get false mk) k l x → Cut t.length (wide t) (get false mk) k l true x R' C → highV t mk k l = x k l := fun x R' C hx hcu => by
      rw [HV.out, high_eq hk hl hb ⟨x, R', C, hx, rfl, hcu⟩]
    have FIN := Lib.hid hfin
    have hmw : ∀ x, Near t.length (wide t) (get 0 t) (get false mk) k l x → x k l ≤ 396 := fun x hx => by
      have a1 := hx.le_row hk hl
      have a2 := HSM.out.1 k hk
      omega
    have HMW := Lib.hid hmw
    clear hb hfin hmw
    go_wp2_with fail
    go_loopg [10] ((1000 - get 0 t k l).toNat + 1) (fun g m wr => ∃ (r : Bool) (x : Nat → Nat → Int), g = (1000 - x k l).toNat + (if r then 1 else 0) ∧ m = .bool r ∧ Hid (OwnI wr w1.heap.size (.slice av t.length cv) vs (tabOf t.length (wide t) x)) ∧ Hid (Near t.length (wide t) (get 0 t) (get false mk) k l x) ∧ Hid (r = true ∨ ∃ R' C, Cut t.length (wide t) (get false mk) k l true x R' C) ∧ Ext w wr)
    case atStart => exact ⟨true, get 0 t, rfl, rfl, OW.out, HNE.out, .inl rfl, E12.out⟩
    case round =>
      clear OW HNE E12
      obtain ⟨r, x, rfl, rfl, how, hne, hr, hext⟩ := hrel
      have hx4 := HMW.out x hne.out
      cases r with
      | true =>
        clear hr
        go_wp2_with fail
        refine (l13Change_any av (some ⟨nb, mf, none⟩) cv d t.length (wide t) k l w1.heap.size mk true (get 0 t) x vs w _ HM.out RM.out how.out hext hBw h1 h4 m4 hk hl HB.out HSM.out hne.out).mono ?_
        rintro e w3 ⟨r, X, rfl, own3, e3, ne3, hres⟩
        have O3 := Lib.hid own3; have N3 := Lib.hid ne3
        have hx5 := HMW.out X ne3
        clear own3 ne3
        rcases hres with ⟨rfl, hX⟩ | ⟨rfl, rfl, hc⟩
        · have hX' : X k l = x k l + 1 := hX
          have HX := Lib.hid hX'
          clear hX hX'
          go_wp2_with fail
          go_roundg ((1000 - X k l).toNat + 1)
          case measure => have := HX.out; simp; omega
          case rel => exact ⟨true, X, rfl, rfl, O3.out, N3.out, .inl rfl, e3⟩
        · have HC := Lib.hid hc
          clear hc
          go_wp2_with fail
          go_roundg ((1000 - X k l).toNat + 0)
          case measure => simp
          case rel => exact ⟨false, X, rfl, rfl, O3.out, N3.out, .inr HC.out, e3⟩
      | false =>
        have hcut : highV t mk k l = x k l := by
          rcases hr.out with h | ⟨R', C, hc⟩
          · cases h
          · exact FIN.out x R' C hne.out hc
        have HCU := Lib.hid hcut
        obtain ⟨o, c', g, ck, ev, _, co, _, _, _, cg, _, _⟩ := how.out.atC (i := k) (j := l) hk hl
        cases ev
        unfold encI at cg
        clear hcut hr how
        go_wp2_with fail
        go_ret
        exact ⟨ret_int HCU.out.symm, hext⟩
set_option maxRecDepth 10000 in
set_option maxHeartbeats 4000000 in
theorem sBoundLow_any (a mb : Option Addr) (c d : Nat) (t : List (List Int)) (mk : List (List Bool)) (i j : Int) (w : World) (ht : IRows w a t) (hmk : BRows w mb mk) (hm : t.length ≤ 9223372036854775807) (hm2 : mk.length ≤ 9223372036854775807) (hi : -9223372036854775808 ≤ i ∧ i ≤ 9223372036854775807) (hj : -9223372036854775808 ≤ j ∧ j ≤ 9223372036854775807) :
    Calls Try.prog 35 #[.slice a t.length c, .slice mb mk.length d, .int .i64 i, .int .i64 j] w (Ret (.int .i64 (lowV t mk i j)) w) := by
  have HT := Lib.hid ht; clear ht
  have HM := Lib.hid hmk; clear hmk
  go_enter Try.func35, Try.ntmps35
  go_wp2_with fail
  refine (l13Ok_any _ _ _ _ t mk i j _ HT.out HM.out hm hm2 hi hj).mono ?_
  rintro e w1 ⟨rfl, e1⟩
  cases o1 : hasC t mk i j
  · have HD := Lib.hid (lowV_no o1); clear o1
    go_wp2_with fail
    go_ret
    exact ⟨ret_int HD.out.symm, e1⟩
  obtain ⟨k, l, rfl, rfl, hk, hl, ok⟩ := hasC_nat o1
  have OK := Lib.hid ok
  clear o1 ok
  obtain ⟨h1, h4, m1, m4⟩ := maskOk_lens OK.out
  have R := Lib.hid (tabOk_rect (maskOk_rect OK.out).1).1
  have RM := Lib.hid (maskOk_rect OK.out).2
  have hmk2 : mk.length = t.length := RM.out.1
  have HML := Lib.hid hmk2; clear hmk2
  have hl4 : ∀ (q : Nat) (hq : q < t.length), t[q].length ≤ 2000000 := fun q hq => by rw [R.out.2 q hq]; omega
  have HL4 := Lib.hid hl4; clear hl4
  have HV := Lib.hid (lowV_at OK.out hk hl)
  have hSM := small_of OK.out
  have hNE0 := (Fits.refl (b := get false mk) (maskOk_pos OK.out)).near k l
  go_wp2_with fail
  refine (l11Copy_any _ _ t _ (HT.out.ext e1) (by omega) HL4.out).mono ?_
  rintro e w2 ⟨v, vs, rfl, own, e2⟩
  have e12 := e1.trans e2
  obtain ⟨av, cv, hv, _, _, _⟩ := own.rows
  subst hv
  have own' : OwnI w2 w1.heap.size (.slice av t.length cv) vs (tabOf t.length (wide t) (get 0 t)) := by
    have := own
    rw [R.out.eq 0, tabOf_length] at this
    exact this
  have OW := Lib.hid own'; have E12 := Lib.hid e12; have HSM := Lib.hid hSM; have HNE := Lib.hid hNE0
  have hBw : w.heap.size ≤ w1.heap.size := e1.size
  obtain ⟨nb, mf, mb2, mf2, mk2, rfl, cm1, cm2⟩ := (HM.out.ext e12).atC false RM.out hk hl
  have hkz : (k : Int) < (t.length : Int) := by omega
  have hlz : (l : Int) < (wide t : Int) := by omega
  have hkm : (k : Int) < (mk.length : Int) := by have := HML.out; omega
  clear own own' e1 e2 e12 hSM hNE0
  cases hb : get false mk k l with
  | false =>
    have hv : low t.length (wide t) (get 0 t) (get false mk) k l = get 0 t k l := by unfold low; rw [hb]; rfl
    have HW := Lib.hid (HV.out.trans hv)
    unfold encB at cm2
    rw [hb] at cm2
    obtain ⟨o, c', g, ck, ev, _, co, _, _, _, cg, _, _⟩ := OW.out.atC (i := k) (j := l) hk hl
    cases ev
    unfold encI at cg
    obtain ⟨y, hy⟩ : ∃ y, get 0 t k l = y := ⟨_, rfl⟩
    rw [hy] at cg
    have HY := Lib.hid hy
    clear hb hv hy
    go_wp2_with fail
    go_loopg [10] 0 (fun g m wr => g = 0 ∧ m = .bool false ∧ w2 = wr)
    case atStart => exact ⟨rfl, rfl, rfl⟩
    case round =>
      obtain ⟨rfl, rfl, rfl⟩ := hrel
      go_wp2_with fail
      go_ret
      exact ⟨ret_int (by rw [HW.out, HY.out]), E12.out⟩
  | true =>
    have HB := Lib.hid hb
    unfold encB at cm2
    rw [hb] at cm2
    have hfin : ∀ x, Near t.length (wide t) (get 0 t) (get false mk) k l x → 0 ≤ x k l → (x k l = 0 ∨ ∃ R' C, Cut t.length (wide t) (get false mk) k l false x R' C) → lowV t mk k l = x k l := fun x hx h0 hcu => by
      rw [HV.out, low_eq (maskOk_pos OK.out) hk hl hb hx h0 hcu]
    have FIN := Lib.hid hfin
    have hmw : ∀ x, Near t.length (wide t) (get 0 t) (get false mk) k l x → x k l ≤ 396 := fun x hx => by
      have a1 := hx.le_row hk hl
      have a2 := HSM.out.1 k hk
      omega
    have HMW := Lib.hid hmw
    have h00 := maskOk_pos OK.out k l hk hl
    clear hb hfin hmw
    go_wp2_with fail
    go_loopg [10] ((get 0 t k l).toNat + 1) (fun g m wr => ∃ (r : Bool) (x : Nat → Nat → Int), g = (x k l).toNat + (if r then 1 else 0) ∧ m = .bool r ∧ 0 ≤ x k l ∧ Hid (OwnI wr w1.heap.size (.slice av t.length cv) vs (tabOf t.length (wide t) x)) ∧ Hid (Near t.length (wide t) (get 0 t) (get false mk) k l x) ∧ Hid (r = true ∨ ∃ R' C, Cut t.length (wide t) (get false mk) k l false x R' C) ∧ Ext w wr)
    case atStart => exact ⟨true, get 0 t, rfl, rfl, h00, OW.out, HNE.out, .inl rfl, E12.out⟩
    case round =>
      clear OW HNE E12 h00
      obtain ⟨r, x, rfl, rfl, hx0, how, hne, hr, hext⟩ := hrel
      have hx4 := HMW.out x hne.out
      obtain ⟨o, c', g, ck, ev, _, co, _, _, _, cg, _, _⟩ := how.out.atC (i := k) (j := l) hk hl
      cases ev
      unfold encI at cg
      obtain ⟨y, hy⟩ : ∃ y, x k l = y := ⟨_, rfl⟩
      rw [hy] at cg hx0 hx4
      have HY := Lib.hid hy
      clear hy
      cases r with
      | true =>
        clear hr
        by_cases hy0 : 0 < y
        · go_wp2_with fail
          refine (l13Change_any (some ⟨o, 0, none⟩) (some ⟨nb, mf, none⟩) cv d t.length (wide t) k l w1.heap.size mk false (get 0 t) x vs w _ HM.out RM.out how.out hext hBw h1 h4 m4 hk hl HB.out HSM.out hne.out).mono ?_
          rintro e w3 ⟨r, X, rfl, own3, e3, ne3, hres⟩
          have O3 := Lib.hid own3; have N3 := Lib.hid ne3
          clear own3 ne3
          rcases hres with ⟨rfl, hX⟩ | ⟨rfl, rfl, hc⟩
          · have hX' : X k l = y - 1 := by rw [← HY.out]; exact hX
            have HX := Lib.hid hX'
            clear hX hX'
            go_wp2_with fail
            go_roundg ((X k l).toNat + 1)
            case measure => have h1 := HX.out; have h2 := HY.out; simp; omega
            case rel => exact ⟨true, X, rfl, rfl, by have := HX.out; omega, O3.out, N3.out, .inl rfl, e3⟩
          · have HC := Lib.hid hc
            clear hc
            go_wp2_with fail
            go_roundg ((X k l).toNat + 0)
            case measure => simp
            case rel => exact ⟨false, X, rfl, rfl, by have := HY.out; omega, O3.out, N3.out, .inr HC.out, e3⟩
        · have hlv : lowV t mk k l = y := by
            rw [FIN.out x hne.out (by rw [HY.out]; exact hx0) (.inl (by rw [HY.out]; omega))]; exact HY.out
          have HLV := Lib.hid hlv
          have hy0b : decide (0 < y) = false := by simpa using hy0
          clear hlv how hne
          go_wp2_with fail
          go_ret
          exact ⟨ret_int HLV.out.symm, hext⟩
      | false =>
        have hlv : lowV t mk k l = y := by
          rcases hr.out with h | hc
          · cases h
          · rw [FIN.out x hne.out (by rw [HY.out]; exact hx0) (.inr hc)]; exact HY.out
        have HLV := Lib.hid hlv
        clear hlv how hne hr
        go_wp2_with fail
        go_ret
        exact ⟨ret_int HLV.out.symm, hext⟩
end Go.Proofs.Ytelcdjbbcffliaa
