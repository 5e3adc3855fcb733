/- The reference's search for a way. -/
import Derived.Test.YtelcdjbbcffliaaSOpen
import Derived.Test.YtelcdjbbcffliaaGrow
namespace Go.Proofs.Ytelcdjbbcffliaa
open Go.RowKit Go.DC
def qi (q : List Nat) : List Int := q.map fun (n : Nat) => (n : Int)
theorem qi_len (q : List Nat) : (qi q).length = q.length := by simp [qi]
theorem qi_app (q : List Nat) (v : Nat) : qi q ++ [(v : Int)] = qi (q ++ [v]) := by simp [qi]
theorem qi_at {q : List Nat} {k u : Nat} (h : q[k]? = some u) : ((qi q).map encI)[k]? = some (.int .i64 u) := by
  simp [qi, h, encI]
theorem rep_row (N : Nat) : (List.replicate N (-1 : Int)).map encI = rowOf N fun _ => -1 := by
  apply List.ext_getElem
  · simp [rowOf]
  · intro k h1 h2; simp [rowOf]
set_option maxRecDepth 10000 in
set_option maxHeartbeats 8000000 in
theorem l13Path_any (a mb : Option Addr) (c d h m i j : Nat) (t : List (List Int)) (mk : List (List Bool)) (up : Bool) (w : World) (ht : IRows w a t) (hmk : BRows w mb mk) (hr : Rect t h m) (hrm : Rect mk h m) (h1 : 1 ≤ h) (h4 : h ≤ 4) (m4 : m ≤ 4) (hi : i < h) (hj : j < m) :
    Calls Try.prog 71 #[.slice a t.length c, .slice mb mk.length d, .int .i64 i, .int .i64 j, .bool up] w (ReachOut (h + m) i (DC.Open h m (get false mk) i j up (get 0 t)) w) := by
  have HT := Lib.hid ht; clear ht
  have HM := Lib.hid hmk; clear hmk
  have HOP : Hid (∀ u v (wx : World), Ext w wx → u < h + m → v < h + m → Calls Try.prog 78 #[.slice a t.length c, .slice mb mk.length d, .int .i64 u, .int .i64 v, .bool up] wx fun e w' => e = .returned (.bool (openB h (get false mk) up (get 0 t) u v)) ∧ wx = w') :=
    fun u v wx e hu hv => l13Open_any a mb c d h m u v t mk up wx (HT.out.ext e) (HM.out.ext e) hr hrm h4 m4 hu hv
  have hl : t.length = h := hr.1
  have hml : mk.length = h := hrm.1
  rw [hl, hml] at HOP ⊢
  obtain ⟨b0, off0, a0, c0, rfl, hc0⟩ := HT.out.rowC hr (i := 0) (by omega)
  simp only [Nat.add_zero] at hc0
  clear hl hml hr hrm
  obtain ⟨N, hN⟩ : ∃ N, h + m = N := ⟨_, rfl⟩
  obtain ⟨z, hz⟩ : ∃ z, h + j = z := ⟨_, rfl⟩
  have hzc : (h : Int) + (j : Int) = (z : Int) := by omega
  have hNc : (h : Int) + (m : Int) = (N : Int) := by omega
  have hN8 : N ≤ 8 := by omega
  have hzN : z < N := by omega
  have hiN : i < N := by omega
  have hizN : (i : Int) < (N : Int) := by omega
  have h0z : (0 : Int) < (h : Int) := by omega
  obtain ⟨E, hE⟩ : ∃ E, DC.Open h m (get false mk) i j up (get 0 t) = E := ⟨_, rfl⟩
  have HEQ : Hid (∀ u v, u < N → v < N → v ≠ i → ¬ (u = i ∧ v = z) → (openB h (get false mk) up (get 0 t) u v = true ↔ E u v)) := fun u v hu hv hvi hown => by
    rw [← hE]; exact openB_iff (by omega) (by omega) hvi (fun e => hown ⟨e.1, by omega⟩)
  have HOWN : Hid (¬ E i z) := fun e => by
    rw [← hE] at e
    rcases e with ⟨_, _, _, _, hne, _⟩ | ⟨hc, _⟩
    · exact hne ⟨rfl, by omega⟩
    · omega
  rw [hN] at HOP ⊢
  rw [hE]
  obtain ⟨O, hO⟩ : ∃ O, openB h (get false mk) up (get 0 t) = O := ⟨_, rfl⟩
  rw [hO] at HOP HEQ
  clear hE hO hN hz HT HM
  have own0 : (w.alloc (.cells #[] 3)).ownsRow w.heap.size 3 1 (.slice (some ⟨w.heap.size, 0, none⟩) 0 0) (List.replicate 0 (-1 : Int)).length ((List.replicate 0 (-1 : Int)).map encI) := World.ownsRow_made w #[] 0 (Nat.le_refl _) (by decide) rfl
  have e0 : Ext w (w.alloc (.cells #[] 3)) := (Ext.refl w).alloc _
  have OW0 := Lib.hid own0; clear own0
  go_enter Try.func71, Try.ntmps71
  go_wp2_with fail
  go_loopg [12, 13] N (fun g p k wr => ∃ n : Nat, n ≤ N ∧ g = N - n ∧ k = .int .i64 n ∧ Hid (wr.ownsRow w.heap.size 3 1 p (List.replicate n (-1 : Int)).length ((List.replicate n (-1 : Int)).map encI)) ∧ Ext w wr)
  case atStart => exact ⟨0, Nat.zero_le _, rfl, rfl, OW0.out, e0⟩
  case round =>
    clear OW0 e0
    obtain ⟨n, hn, rfl, rfl, own, hext⟩ := hrel
    by_cases hlt : n < N
    · have hz : (n : Int) < (N : Int) := by omega
      have hone : IRow (wr.alloc (.cells #[.int .i64 (-1)] 3)) (some ⟨wr.heap.size, 0, none⟩) [-1] := one_row wr (-1)
      have own1 := owns_ext own.out ((Ext.refl wr).alloc (.cells #[.int .i64 (-1)] 3))
      have hb : (List.replicate n (-1 : Int)).length + [(-1 : Int)].length ≤ 10000000 := by simp; omega
      have hB : w.heap.size ≤ (wr.alloc (.cells #[.int .i64 (-1)] 3)).heap.size := by have := hext.size; simp; omega
      have hat : ∀ k', u12.ownBlock = some k' → w.heap.size ≤ k' := fun k' hk' => (own.out.lt k' hk').1
      have HAT := Lib.hid hat
      have HO := Lib.hid hone; have OW := Lib.hid own1; have HBB := Lib.hid hb; have HB := Lib.hid hB
      have e2 := hext.alloc (.cells #[.int .i64 (-1)] 3)
      clear hone own1 hb own hB hat
      go_wp2_with (at_builtin; refine wpList_rowI rfl (.tmp 31) (.tmp 32) rfl w.heap.size _ (List.replicate n (-1 : Int)) rfl OW.out _ _ [-1] rfl (fun h => by cases h) HO.out HBB.out HB.out ?_; intro v2 w2 hu hg _ _)
      have e3 := e2.grownNew hg HAT.out
      have hu' : w2.ownsRow w.heap.size 3 1 v2 (List.replicate (n + 1) (-1 : Int)).length ((List.replicate (n + 1) (-1 : Int)).map encI) := by
        have : List.replicate (n + 1) (-1 : Int) = List.replicate n (-1 : Int) ++ [-1] := List.replicate_succ'
        rw [this]; exact hu
      have HU := Lib.hid hu'
      clear hu hu' hg e2 OW HO
      go_wp2_with fail
      go_roundg (N - (n + 1))
      case measure => omega
      case rel => exact ⟨n + 1, by omega, rfl, by go_num, HU.out, e3⟩
    · have hz : ¬ (n : Int) < (N : Int) := by omega
      obtain rfl : n = N := by omega
      have own := own.out
      rw [rep_row, List.length_replicate] at own
      obtain ⟨ap, cp, hv, _, hxp⟩ := owns_cells own
      obtain ⟨pb, hap, hpb, hci, hfi⟩ := hxp i _ (rowOf_at _ hiN)
      subst hap
      subst hv
      have hplt : pb < wr.heap.size := World.block_lt_of_cell? _ _ hci
      have hst := (World.ownsRow.stored own i (encI i)).1
      rw [rowOf_set _ (par0 i) _ (fun k _ => by unfold par0; rfl)] at hst
      have E1 : Ext w (wr.setCell ⟨pb, i, none⟩ (encI i)) := hext.setCell (p := ⟨pb, i, none⟩) (by show w.heap.size ≤ pb; omega) _
      unfold encI at hci hst E1
      have x2 : Ext (wr.setCell ⟨pb, i, none⟩ (.int .i64 i)) ((wr.setCell ⟨pb, i, none⟩ (.int .i64 i)).alloc (.cells #[.int .i64 i] 3)) := (Ext.refl _).alloc _
      have hst2 := owns_ext hst x2
      have hwk : ((wr.setCell ⟨pb, i, none⟩ (.int .i64 i)).alloc (.cells #[.int .i64 i] 3)).ownsRow wr.heap.size 3 1 (.slice (some ⟨wr.heap.size, 0, none⟩) 1 1) (qi [i]).length ((qi [i]).map encI) := by
        have := World.ownsRow_lit (base := wr.heap.size) (e := 3) (size := 1) (wr.setCell ⟨pb, i, none⟩ (.int .i64 i)) #[.int .i64 i] 1 (by simp) (by unfold maxLen; omega) (by simp)
        simpa [qi, encI] using this
      have e2 := E1.trans x2
      have OW := Lib.hid hst2; have WK := Lib.hid hwk; have BF := Lib.hid (Bfs.start E hiN)
      clear own hxp hst E1 x2 hst2 hwk hlt
      go_wp2_with fail
      obtain ⟨B, hB⟩ : ∃ B, wr.heap.size = B := ⟨_, rfl⟩
      rw [hB] at WK hplt
      try simp only [hB]
      have hBw : w.heap.size ≤ B := by omega
      have hBs : B ≤ wr.heap.size := by omega
      clear hB
      go_loopg [14, 15] n (fun g s p wr => ∃ (k : Nat) (q : List Nat) (P : Nat → Int), k ≤ q.length ∧ g = n - k ∧ p = .int .i64 k ∧ Hid (wr.ownsRow B 3 1 s (qi q).length ((qi q).map encI)) ∧ B ≤ wr.heap.size
        ∧ Hid (wr.ownsRow w.heap.size 3 1 (.slice (some ⟨pb, 0, none⟩) n cp) n (rowOf n P)) ∧ Hid (Bfs n i E P q) ∧ Hid (∀ s (hs : s < q.length), s < k → ∀ v, v < n → E q[s] v → v ∈ q) ∧ Ext w wr)
      case atStart => exact ⟨0, [i], par0 i, Nat.zero_le _, rfl, rfl, WK.out, by simp [World.setCell]; omega, OW.out, BF.out, fun s _ h => absurd h (by omega), e2⟩
      case round =>
        clear WK OW BF e2 hci hfi hBs
        obtain ⟨k, q, P, hk, rfl, rfl, hwk, hBr, own, bfs, hcl, hext⟩ := hrel
        have hqN := bfs.out.len
        by_cases hlt : k < q.length
        · have hlz : (k : Int) < (q.length : Int) := by omega
          obtain ⟨u, hu⟩ : ∃ u, q[k]? = some u := ⟨_, List.getElem?_eq_getElem hlt⟩
          have huN : u < n := by
            have := bfs.out.way.lt q[k] (List.getElem_mem hlt)
            rw [List.getElem?_eq_getElem hlt] at hu
            cases hu; exact this
          obtain ⟨aw, cw, hv, _, _⟩ := owns_cells hwk.out
          rw [qi_len] at hv
          subst hv
          have HU := Lib.hid hu
          clear hu
          go_wp2_with fail
          go_loopg [14, 16] n (fun g s p wi => ∃ (v : Nat) (q : List Nat) (P : Nat → Int), v ≤ n ∧ g = n - v ∧ p = .int .i64 v ∧ Hid (q[k]? = some u) ∧ Hid (wi.ownsRow B 3 1 s (qi q).length ((qi q).map encI)) ∧ B ≤ wi.heap.size
            ∧ Hid (wi.ownsRow w.heap.size 3 1 (.slice (some ⟨pb, 0, none⟩) n cp) n (rowOf n P)) ∧ Hid (Bfs n i E P q) ∧ Hid (∀ s (hs : s < q.length), s < k → ∀ v, v < n → E q[s] v → v ∈ q) ∧ Hid (∀ v', v' < v → E u v' → v' ∈ q) ∧ Ext w wi)
          case atStart => exact ⟨0, q, P, Nat.zero_le _, rfl, rfl, HU.out, hwk.out, hBr, own.out, bfs.out, hcl.out, fun v h => absurd h (by omega), hext⟩
          case round =>
            clear hwk hBr own bfs hcl hext HU hlz hqN hk hlt
            obtain ⟨v, q, P, hv, rfl, rfl, hu, hwk, hBr, own, bfs, hcl, hcj, hext⟩ := hrel
            have hqN := bfs.out.len
            have hlt : k < q.length := (List.getElem?_eq_some_iff.1 hu.out).1
            have hlz : (k : Int) < (q.length : Int) := by omega
            obtain ⟨aw, cw, hvw, _, hwx⟩ := owns_cells hwk.out
            rw [qi_len] at hvw
            subst hvw
            obtain ⟨gw, rfl, hgB, hcw, _⟩ := hwx k _ (qi_at hu.out)
            clear hwx
            by_cases hvt : v < n
            · have hvz : (v : Int) < (n : Int) := by omega
              have hcp := World.ownsRow.cellAt own.out v (by simpa using hvt)
              rw [rowOf_at _ hvt] at hcp
              have hfp := World.ownsRow.frozenAt own.out v
              have hbd := bfs.out.bd v hvt
              have hmem := bfs.out.mem v hvt
              have hst := (World.ownsRow.stored own.out v (encI u)).1
              rw [rowOf_set _ (parPut P v u) _ (fun k _ => by unfold parPut; rfl)] at hst
              obtain ⟨y, hy⟩ : ∃ y, P v = y := ⟨_, rfl⟩
              rw [hy] at hcp hbd hmem
              unfold encI at hcp hst
              obtain ⟨hbd0, hbd1⟩ := hbd
              have HM := Lib.hid hmem; have HST := Lib.hid hst
              have HBR := Lib.hid hBr
              have e12 : ((u : Int) == (i : Int)) = false ∧ ¬ (u = i ∧ v = z) ∨ (((u : Int) == (i : Int)) = true ∧ ((v : Int) == (z : Int)) = false ∧ ¬ (u = i ∧ v = z)) ∨ ((u : Int) == (i : Int)) = true ∧ ((v : Int) == (z : Int)) = true ∧ u = i ∧ v = z := by
                by_cases ea : u = i
                · by_cases eb : v = z
                  · exact .inr (.inr ⟨by rw [ea]; simp, by rw [eb]; simp, ea, eb⟩)
                  · exact .inr (.inl ⟨by rw [ea]; simp, by rw [beq_eq_false_iff_ne]; omega, fun e => eb e.2⟩)
                · exact .inl ⟨by rw [beq_eq_false_iff_ne]; omega, fun e => ea e.1⟩
              have skip : (E u v → v ∈ q) → ∀ v', v' < v + 1 → E u v' → v' ∈ q := fun hh v' hv' hE => by
                by_cases e : v' = v
                · subst e; exact hh hE
                · exact hcj.out v' (by omega) hE
              have SK := Lib.hid skip
              clear hy hmem hst skip hBr
              by_cases hy0 : y < 0
              · have hnq : v ∉ q := fun h => by have := HM.out.2 h; omega
                have hvi : v ≠ i := fun e => hnq (by rw [e]; exact bfs.out.way.start)
                have HNQ := Lib.hid hnq; have HVI := Lib.hid hvi
                clear hnq hvi
                rcases e12 with ⟨ea, hno⟩ | ⟨ea, eb, hno⟩ | ⟨ea, eb, eu, ev⟩
                case inr.inr =>
                  have HUV := Lib.hid (And.intro eu ev)
                  clear eu ev
                  go_wp2_with fail
                  go_roundg (n - (v + 1))
                  case measure => omega
                  case rel => exact ⟨v + 1, q, P, by omega, rfl, by go_num, hu, hwk, HBR.out, own, bfs, hcl, SK.out (fun h => by rw [HUV.out.1, HUV.out.2] at h; exact absurd h HOWN.out), hext⟩
                all_goals
                  have HNO := Lib.hid hno
                  clear hno
                  cases hO : O u v
                  · have HOV := Lib.hid hO
                    clear hO
                    go_wp2_with fail
                    refine (HOP.out u v _ hext huN hvt).mono ?_
                    rintro e w3 ⟨rfl, rfl⟩
                    rw [HOV.out]
                    go_wp2_with fail
                    go_roundg (n - (v + 1))
                    case measure => omega
                    case rel => exact ⟨v + 1, q, P, by omega, rfl, by go_num, hu, hwk, HBR.out, own, bfs, hcl, SK.out (fun h => by have := (HEQ.out u v huN hvt HVI.out HNO.out).2 h; rw [HOV.out] at this; cases this), hext⟩
                  · have HOV := Lib.hid hO
                    clear hO
                    have hpbB : pb ≠ gw := by omega
                    have hgp : gw ≠ pb := by omega
                    have huq : u ∈ q := List.mem_of_getElem? hu.out
                    have bfs2 := bfs.out.push huq hvt HNQ.out ((HEQ.out u v huN hvt HVI.out HNO.out).1 HOV.out)
                    have x2 : Ext (wr.setCell ⟨pb, v, none⟩ (.int .i64 u)) ((wr.setCell ⟨pb, v, none⟩ (.int .i64 u)).alloc (.cells #[.int .i64 v] 3)) := (Ext.refl _).alloc _
                    have wk2 : ((wr.setCell ⟨pb, v, none⟩ (.int .i64 u)).alloc (.cells #[.int .i64 v] 3)).ownsRow B 3 1 (.slice (some ⟨gw, 0, none⟩) q.length cw) (qi q).length ((qi q).map encI) :=
                      owns_ext (owns_other hwk.out ⟨pb, v, none⟩ (.int .i64 u) (fun g hg => by cases hg; exact hgp)) x2
                    have own2 := owns_ext HST.out x2
                    have ext2 : Ext w ((wr.setCell ⟨pb, v, none⟩ (.int .i64 u)).alloc (.cells #[.int .i64 v] 3)) := (hext.setCell (p := ⟨pb, v, none⟩) (by show w.heap.size ≤ pb; omega) _).trans x2
                    have hone : IRow ((wr.setCell ⟨pb, v, none⟩ (.int .i64 u)).alloc (.cells #[.int .i64 v] 3)) (some ⟨wr.heap.size, 0, none⟩) [(v : Int)] := by
                      have := one_row (enc := encI) (te := 3) (wr.setCell ⟨pb, v, none⟩ (.int .i64 u)) (v : Int)
                      have hz' : (wr.setCell ⟨pb, v, none⟩ (.int .i64 u)).heap.size = wr.heap.size := by simp [World.setCell]
                      rw [hz'] at this
                      exact this
                    have hB2 : B ≤ ((wr.setCell ⟨pb, v, none⟩ (.int .i64 u)).alloc (.cells #[.int .i64 v] 3)).heap.size := by have := HBR.out; simp; omega
                    have hb : (qi q).length + [(v : Int)].length ≤ 10000000 := by rw [qi_len]; simp; omega
                    have WK2 := Lib.hid wk2; have OW2 := Lib.hid own2; have EX2 := Lib.hid ext2; have HO := Lib.hid hone; have HB2 := Lib.hid hB2; have HBB := Lib.hid hb; have BF2 := Lib.hid bfs2
                    clear x2 wk2 own2 ext2 hone hB2 hb bfs2 own bfs HST
                    go_wp2_with fail
                    refine (HOP.out u v _ hext huN hvt).mono ?_
                    rintro e w3 ⟨rfl, rfl⟩
                    rw [HOV.out]
                    go_wp2_with (at_builtin; refine wpList_rowI rfl (.tmp 92) (.tmp 94) rfl B _ (qi q) rfl WK2.out _ _ [(v : Int)] rfl (fun h => by cases h) HO.out HBB.out HB2.out ?_; intro v2 w2 hu2 hg2 _ _)
                    have ext3 : Ext w w2 := EX2.out.grownNew hg2 (fun k' hk' => by have : gw = k' := Option.some.inj hk'; omega)
                    have own3 : w2.ownsRow w.heap.size 3 1 (.slice (some ⟨pb, 0, none⟩) n cp) n (rowOf n (parPut P v u)) := OW2.out.kept hg2 (.inr (fun e => hpbB (Option.some.inj e)))
                    rw [qi_app] at hu2
                    have hB3 : B ≤ w2.heap.size := Nat.le_trans HB2.out hg2.size
                    have U2 := Lib.hid hu2; have O3 := Lib.hid own3; have B3 := Lib.hid hB3
                    clear hu2 own3 hg2 hB3
                    go_wp2_with fail
                    go_roundg (n - (v + 1))
                    case measure => omega
                    case rel => exact ⟨v + 1, q ++ [v], parPut P v u, by omega, rfl, by go_num, by show (q ++ [v])[k]? = some u; rw [List.getElem?_append_left hlt]; exact hu.out, U2.out, B3.out, O3.out, BF2.out, fun s hs hsd v' hv' hE' => by
                      have hs2 : s < q.length := by omega
                      rw [List.getElem_append_left hs2] at hE'
                      exact List.mem_append_left _ (hcl.out s hs2 hsd v' hv' hE'), fun v' hv' hE' => by
                      by_cases e : v' = v
                      · subst e; simp
                      · exact List.mem_append_left _ (hcj.out v' (by omega) hE'), ext3⟩
              · have hy0b : decide (y < 0) = false := by simpa using hy0
                have hq : v ∈ q := HM.out.1 (by omega)
                have HQ := Lib.hid hq
                clear hq
                rcases e12 with ⟨ea, hno⟩ | ⟨ea, eb, hno⟩ | ⟨ea, eb, eu, ev⟩
                all_goals
                  (first | clear hno | clear eu ev)
                  go_wp2_with fail
                  go_roundg (n - (v + 1))
                  case measure => omega
                  case rel => exact ⟨v + 1, q, P, by omega, rfl, by go_num, hu, hwk, HBR.out, own, bfs, hcl, SK.out (fun _ => HQ.out), hext⟩
            · have hvz : ¬ (v : Int) < (n : Int) := by omega
              go_wp2_with fail
              go_roundg (n - (k + 1))
              case measure => omega
              case rel => exact ⟨k + 1, q, P, by omega, rfl, by go_num, hwk, hBr, own, bfs, fun s hs hsd v' hv' hE' => by
                by_cases e : s = k
                · subst e
                  have e2 : q[s] = u := by have := hu.out; rw [List.getElem?_eq_getElem hs] at this; exact Option.some.inj this
                  exact hcj.out v' (by omega) (e2 ▸ hE')
                · exact hcl.out s hs (by omega) v' hv' hE', hext⟩
        · have hlz : ¬ (k : Int) < (q.length : Int) := by omega
          obtain ⟨aw, cw, hv, _, _⟩ := owns_cells hwk.out
          rw [qi_len] at hv
          subst hv
          go_wp2_with fail
          go_ret
          exact ⟨_, P, q, rfl, own.out, bfs.out, fun a ha v hv hE => by
            obtain ⟨s, hs, es⟩ := List.getElem_of_mem ha
            exact hcl.out s hs (by omega) v hv (by rw [es]; exact hE), hext⟩
end Go.Proofs.Ytelcdjbbcffliaa
