/- What is reached from a place, breadth first. -/
import Derived.Test.YtelcdjbbcffliaaSums
import Derived.Test.YtelcdjbbcffliaaQue
import Derived.Test.YtelcdjbbcffliaaRep
import Derived.Test.YtelcdjbbcffliaaFlow2
namespace Go.DC
/-- The places that were reached, and whence. -/
structure Bfs (N i : Nat) (E : Nat → Nat → Prop) (P : Nat → Int) (q : List Nat) : Prop where
  way : Way N i E (fun p => (P p).toNat) q
  mem : ∀ p, p < N → (0 ≤ P p ↔ p ∈ q)
  bd : ∀ p, p < N → -1 ≤ P p ∧ P p < N
def par0 (i : Nat) : Nat → Int := fun p => if p = i then (i : Int) else -1
def parPut (P : Nat → Int) (v u : Nat) : Nat → Int := fun p => if p = v then (u : Int) else P p
theorem Bfs.start {N i : Nat} (E : Nat → Nat → Prop) (hi : i < N) : Bfs N i E (par0 i) [i] := by
  refine ⟨⟨rfl, fun u hu => by rw [List.mem_singleton.1 hu]; exact hi, by simp, fun s hs h0 => ?_⟩, fun p _ => ?_, fun p _ => ?_⟩
  · have : s < 1 := hs
    omega
  · unfold par0
    by_cases e : p = i
    · simp [e]
    · simp [e]
  · unfold par0
    split <;> omega
theorem Bfs.push {N i u v : Nat} {E : Nat → Nat → Prop} {P : Nat → Int} {q : List Nat} (h : Bfs N i E P q) (hu : u ∈ q) (hv : v < N) (hn : v ∉ q) (hE : E u v) : Bfs N i E (parPut P v u) (q ++ [v]) := by
  have w := h.way
  have hl1 : [v].length = 1 := rfl
  refine ⟨⟨?_, fun a ha => ?_, ?_, fun s hs h0 => ?_⟩, fun p hp => ?_, fun p hp => ?_⟩
  · have hz := w.zero
    rw [List.getElem?_append_left (List.getElem?_eq_some_iff.1 hz).1]; exact hz
  · rcases List.mem_append.1 ha with h' | h'
    · exact w.lt a h'
    · rw [List.mem_singleton.1 h']; exact hv
  · rw [List.nodup_append]; exact ⟨w.nodup, by simp, fun a ha c hc e => by rw [List.mem_singleton.1 hc] at e; exact hn (e ▸ ha)⟩
  · by_cases e : s < q.length
    · obtain ⟨t, ht, hts, hp, hE'⟩ := w.from_ s e h0
      refine ⟨t, by rw [List.length_append]; omega, hts, ?_, ?_⟩
      · rw [List.getElem_append_left e, List.getElem_append_left ht]
        have : ¬ q[s] = v := fun x => hn (x ▸ List.getElem_mem e)
        unfold parPut
        rw [if_neg this]; exact hp
      · rw [List.getElem_append_left e, List.getElem_append_left ht]; exact hE'
    · have es : s = q.length := by rw [List.length_append] at hs; omega
      subst es
      obtain ⟨t, ht, et⟩ := List.getElem_of_mem hu
      refine ⟨t, by rw [List.length_append]; omega, ht, ?_, ?_⟩
      · simp [List.getElem_append_left ht, et, parPut]
      · simp [List.getElem_append_left ht, et, hE]
  · unfold parPut
    by_cases e : p = v
    · subst e; simp
    · rw [if_neg e, h.mem p hp]; simp [e]
  · unfold parPut
    split
    · have := w.lt u hu; omega
    · exact h.bd p hp
theorem Bfs.len {N i : Nat} {E : Nat → Nat → Prop} {P : Nat → Int} {q : List Nat} (h : Bfs N i E P q) : q.length ≤ N := nodup_len h.way.nodup h.way.lt
end Go.DC
namespace Go.Proofs.Ytelcdjbbcffliaa
open Go.RowKit Go.DC
def encN (n : Nat) : Value := .int .i64 (n : Int)
/-- What a search hands back. -/
def ReachOut (N i : Nat) (E : Nat → Nat → Prop) (w : World) (e : Ending) (w' : World) : Prop :=
  ∃ v P q, e = .returned v ∧ w'.ownsRow w.heap.size 3 1 v N (rowOf N P) ∧ Bfs N i E P q ∧ Closed N E q ∧ Ext w w'
set_option maxRecDepth 10000 in
set_option maxHeartbeats 4000000 in
theorem reach_any (ar : Option Addr) (cr N i : Nat) (R : Nat → Nat → Int) (w : World) (ht : IRows w ar (tabOf N N R)) (hN : N ≤ 8) (hi : i < N) :
    Calls Try.prog 69 #[.slice ar N cr, .int .i64 i] w (ReachOut N i (fun u v => 0 < R u v) w) := by
  have HT := Lib.hid ht; clear ht
  have hiz : (i : Int) < (N : Int) := by omega
  have hone : (w.alloc (.cells #[.int .i64 (-1)] 3)).cell? ⟨w.heap.size, 0, none⟩ = some (.int .i64 (-1)) := one_cellI w (-1)
  go_enter Try.func69, Try.ntmps69
  go_wp2_with fail
  refine (Repeat_any w.heap.size (-1) N _ hone (by omega) hN).mono ?_
  rintro e w1 ⟨v, rfl, own, e1⟩
  have own1 : w1.ownsRow (w.heap.size + 1) 3 1 v N (rowOf N fun _ => -1) := by
    have hz : (w.alloc (.cells #[.int .i64 (-1)] 3)).heap.size = w.heap.size + 1 := by simp
    rw [hz] at own
    rw [List.length_replicate] at own
    have : (List.replicate N (-1 : Int)).map encI = rowOf N fun _ => -1 := by
      apply List.ext_getElem
      · simp [rowOf]
      · intro k h1 h2; simp [rowOf]
    rw [this] at own; exact own
  obtain ⟨ap, cp, hv, _, hxp⟩ := owns_cells own1
  obtain ⟨pb, hap, hpb, hc0, hf0⟩ := hxp i _ (rowOf_at _ hi)
  subst hap
  subst hv
  have E1 : Ext w w1 := ((Ext.refl w).alloc _).trans e1
  have hst := (World.ownsRow.stored own1 i (encI i)).1
  rw [rowOf_set _ (par0 i) _ (fun k _ => by unfold par0; rfl)] at hst
  have E2 : Ext w (w1.setCell ⟨pb, i, none⟩ (encI i)) := E1.setCell (p := ⟨pb, i, none⟩) (by show w.heap.size ≤ pb; omega) _
  have hplt : pb < w1.heap.size := World.block_lt_of_cell? _ _ hc0
  have OW := Lib.hid hst
  unfold encI at hc0 OW E2
  clear own own1 hxp hst
  have hq0 : QueI ((w1.setCell ⟨pb, i, none⟩ (.int .i64 i)).alloc (.cells #[.int .i64 i] 3)) w1.heap.size w1.heap.size 0 1 (([i].drop 0).map encN) := by
    have := Que.lit (I := 3) (B := w1.heap.size) (w1.setCell ⟨pb, i, none⟩ (.int .i64 i)) (.int .i64 i) (by simp)
    simpa [encN] using this
  have hx0 : Ext (w1.setCell ⟨pb, i, none⟩ (.int .i64 i)) ((w1.setCell ⟨pb, i, none⟩ (.int .i64 i)).alloc (.cells #[.int .i64 i] 3)) := (Ext.refl _).alloc _
  have ho0 := owns_ext OW.out hx0
  have hE0 := E2.trans hx0
  have Q0 := Lib.hid hq0; have O0 := Lib.hid ho0; have X0 := Lib.hid hE0
  clear hq0 ho0 hE0 hx0 OW E2 E1
  have hws : w.heap.size ≤ w1.heap.size := by omega
  have hpbw : w.heap.size ≤ pb := by omega
  go_wp2_with fail
  go_loopg [6] N (fun g s wr => ∃ (d : Nat) (q : List Nat) (P : Nat → Int) (qg qo qc : Nat), d ≤ q.length ∧ g = N - d ∧ s = .slice (some ⟨qg, qo, none⟩) (q.length - d) qc ∧ QueI wr w1.heap.size qg qo qc ((q.drop d).map encN)
    ∧ wr.ownsRow (w.heap.size + 1) 3 1 (.slice (some ⟨pb, 0, none⟩) N cp) N (rowOf N P) ∧ Bfs N i (fun u v => 0 < R u v) P q ∧ (∀ s (hs : s < q.length), s < d → ∀ v, v < N → 0 < R q[s] v → v ∈ q) ∧ Ext w wr)
  case atStart => exact ⟨0, [i], par0 i, w1.heap.size, 0, 1, Nat.zero_le _, rfl, rfl, Q0.out, O0.out, Bfs.start _ hi, fun s _ h => absurd h (by omega), X0.out⟩
  case round =>
    clear Q0 O0 X0
    obtain ⟨d, q, P, qg, qo, qc, hd, rfl, rfl, hq, own, bfs, hcl, hext⟩ := hrel
    have hqN := bfs.len
    by_cases hlt : d < q.length
    · have hz : (0 : Int) < ((q.length - d : Nat) : Int) := by omega
      have hz3 : 0 < q.length - d := by omega
      have hzd : decide (0 < q.length - d) = true := by simpa using hz3
      obtain ⟨u, hu⟩ : ∃ u, q[d] = u := ⟨_, rfl⟩
      have huN : u < N := by rw [← hu]; exact bfs.way.lt _ (List.getElem_mem hlt)
      have huz : (u : Int) < (N : Int) := by omega
      have hq0 : ((q.drop d).map encN)[0]? = some (encN u) := by simp [List.getElem?_drop, List.getElem?_eq_getElem hlt, hu]
      have hcq := hq.cell hq0
      obtain ⟨tb, tf, ak, ck, ea, hck0, _, _, hrow⟩ := HT.out u (by rw [tabOf_length]; exact huN)
      subst ea
      rw [tabOf_rowlen] at hck0
      have hck := hext.cell hck0
      have HROW := Lib.hid hrow; have HU := Lib.hid hu; have HCL := Lib.hid hcl; have BF := Lib.hid bfs; have QU := Lib.hid hq; have OW := Lib.hid own; have HX := Lib.hid hext
      have hu9 : q[d]? = some u := by rw [List.getElem?_eq_getElem hlt, hu]
      have HU9 := Lib.hid hu9
      unfold encN at hcq
      simp only [Nat.add_zero] at hcq
      clear hrow hu hcl bfs hq own hext hck0 hq0 hu9
      go_wp2_with fail
      go_loopg [6, 31] N (fun g s t wi => ∃ (j : Nat) (q : List Nat) (P : Nat → Int) (qg qo qc : Nat), j ≤ N ∧ g = N - j ∧ t = .int .i64 j ∧ s = .slice (some ⟨qg, qo, none⟩) (q.length - d) qc ∧ Hid (q[d]? = some u) ∧ QueI wi w1.heap.size qg qo qc ((q.drop d).map encN)
        ∧ wi.ownsRow (w.heap.size + 1) 3 1 (.slice (some ⟨pb, 0, none⟩) N cp) N (rowOf N P) ∧ Bfs N i (fun u v => 0 < R u v) P q ∧ (∀ s (hs : s < q.length), s < d → ∀ v, v < N → 0 < R q[s] v → v ∈ q) ∧ (∀ v, v < j → 0 < R u v → v ∈ q) ∧ Ext w wi)
      case atStart => exact ⟨0, q, P, qg, qo, qc, Nat.zero_le _, rfl, rfl, rfl, HU9.out, QU.out, OW.out, BF.out, HCL.out, fun v h => absurd h (by omega), HX.out⟩
      case round =>
        clear HCL BF QU OW HX HU9 HU hcq hz hz3 hzd hqN hd hlt
        clear hck
        obtain ⟨j, q, P, qg, qo, qc, hj, rfl, rfl, rfl, hu9, hq, own, bfs, hcl, hcj, hext⟩ := hrel
        have hqN := bfs.len
        have hlt : d < q.length := (List.getElem?_eq_some_iff.1 hu9.out).1
        have hq0 : ((q.drop d).map encN)[0]? = some (encN u) := by
          rw [List.getElem?_map, List.getElem?_drop, Nat.add_zero, hu9.out]; rfl
        have hcq := hq.cell hq0
        unfold encN at hcq
        simp only [Nat.add_zero] at hcq
        have hqle := hq.le
        have hnl : ((q.drop d).map encN).length = q.length - d := by simp
        rw [hnl] at hqle
        have hz : (0 : Int) < ((q.length - d : Nat) : Int) := by omega
        by_cases hjt : j < N
        · have hjz : (j : Int) < (N : Int) := by omega
          obtain ⟨rb, rf, rfl, hcr⟩ := (HROW.out.ext hext) j (by rw [tabOf_rowlen]; exact hjt)
          rw [tabOf_cell] at hcr
          have hcp := World.ownsRow.cellAt own j (by simpa using hjt)
          rw [rowOf_at _ hjt] at hcp
          have hfp := World.ownsRow.frozenAt own j
          have hbd := bfs.bd j hjt
          have hmem := bfs.mem j hjt
          have hst := (World.ownsRow.stored own j (encI u)).1
          rw [rowOf_set _ (parPut P j u) _ (fun k _ => by unfold parPut; rfl)] at hst
          obtain ⟨x, hx⟩ : ∃ x, R u j = x := ⟨_, rfl⟩
          obtain ⟨y, hy⟩ : ∃ y, P j = y := ⟨_, rfl⟩
          rw [hx] at hcr
          rw [hy] at hcp hbd hmem
          unfold encI at hcr hcp hst
          have HX1 := Lib.hid hx; have HY1 := Lib.hid hy; have HM := Lib.hid hmem
          have QU := Lib.hid hq; have OW := Lib.hid own; have BF := Lib.hid bfs; have HCL := Lib.hid hcl; have HCJ := Lib.hid hcj; have HEX := Lib.hid hext; have HST := Lib.hid hst
          have hqgb := hq.ge
          have hqpb : pb ≠ qg := by omega
          clear hx hy hmem hq own bfs hcl hcj hext hst hnl hq0
          by_cases hx0 : 0 < x
          · by_cases hy0 : y < 0
            · have hnq : j ∉ q := fun h => by have := HM.out.2 h; omega
              have huq : u ∈ q := List.mem_of_getElem? hu9.out
              have bfs' := BF.out.push huq hjt hnq (by show 0 < R u j; rw [HX1.out]; exact hx0)
              have hq2 : QueI ((wr.setCell ⟨pb, j, none⟩ (.int .i64 u)).alloc (.cells #[.int .i64 j] 3)) w1.heap.size qg qo qc ((q.drop d).map encN) := (QU.out.other ⟨pb, j, none⟩ hqpb _).ext ((Ext.refl _).alloc _)
              have hcell : ((wr.setCell ⟨pb, j, none⟩ (.int .i64 u)).alloc (.cells #[.int .i64 j] 3)).cell? ⟨wr.heap.size, 0, none⟩ = some (.int .i64 j) := by
                have := one_cellI (wr.setCell ⟨pb, j, none⟩ (.int .i64 u)) j
                simpa using this
              have own2 := owns_ext HST.out ((Ext.refl _).alloc (.cells #[.int .i64 j] 3))
              have hsz0 := HEX.out.size
              have hlt1 : w1.heap.size ≤ wr.heap.size := Nat.le_of_lt (Nat.lt_of_le_of_lt hqgb QU.out.lt)
              have hB : w1.heap.size ≤ ((wr.setCell ⟨pb, j, none⟩ (.int .i64 u)).alloc (.cells #[.int .i64 j] 3)).heap.size := by simp; omega
              have hln : q.length - d = ((q.drop d).map encN).length := by simp
              have hl1 : ((q.drop d).map encN).length ≤ 1000 := by simp; omega
              have hxs : (q.drop d).map encN ++ [.int .i64 j] = ((q ++ [j]).drop d).map encN := by
                rw [List.drop_append_of_le_length (by omega), List.map_append]; rfl
              have hln2 : q.length - d + 1 = (q ++ [j]).length - d := by rw [List.length_append]; have : [j].length = 1 := rfl; omega
              have ext2 : Ext w ((wr.setCell ⟨pb, j, none⟩ (.int .i64 u)).alloc (.cells #[.int .i64 j] 3)) := (HEX.out.setCell (p := ⟨pb, j, none⟩) hpbw _).alloc _
              have hqgw : w.heap.size ≤ qg := by omega
              have Q2 := Lib.hid hq2; have CE := Lib.hid hcell; have O2 := Lib.hid own2; have LN := Lib.hid hln; have L1 := Lib.hid hl1; have XS := Lib.hid hxs; have LN2 := Lib.hid hln2; have X2 := Lib.hid ext2; have BF2 := Lib.hid bfs'; have HBB := Lib.hid hB
              clear hq2 hcell own2 hln hl1 hxs hln2 ext2 bfs' hB HST
              go_wp2_with (at_builtin; refine wpList_que rfl (.tmp 51) (.tmp 53) rfl w1.heap.size qg qo qc (q.length - d) _ LN.out rfl Q2.out HBB.out L1.out wr.heap.size rfl _ CE.out rfl ?_; intro g' o' c' w2 hq3 hg3 _)
              have own3 : w2.ownsRow (w.heap.size + 1) 3 1 (.slice (some ⟨pb, 0, none⟩) N cp) N (rowOf N (parPut P j u)) := O2.out.kept hg3 (.inr (by simp [Value.ownBlock]; exact hqpb))
              have ext3 : Ext w w2 := X2.out.grownNew hg3 (fun k hk => by cases hk; exact hqgw)
              rw [XS.out] at hq3
              have Q3 := Lib.hid hq3; have O3 := Lib.hid own3; have X3 := Lib.hid ext3
              clear hq3 hg3 own3 ext3
              go_wp2_with fail
              go_roundg (N - (j + 1))
              case measure => omega
              case rel => exact ⟨j + 1, q ++ [j], parPut P j u, g', o', c', by omega, rfl, by go_num, by rw [LN2.out], by show (q ++ [j])[d]? = some u; rw [List.getElem?_append_left hlt]; exact hu9.out, Q3.out, O3.out, BF2.out, fun s hs hsd v hv hE => by
                have hs2 : s < q.length := by omega
                rw [List.getElem_append_left hs2] at hE
                exact List.mem_append_left _ (HCL.out s hs2 hsd v hv hE), fun v hv hE => by
                by_cases e : v = j
                · subst e; simp
                · exact List.mem_append_left _ (HCJ.out v (by omega) hE), X3.out⟩
            · have hy0b : decide (y < 0) = false := by simpa using hy0
              go_wp2_with fail
              go_roundg (N - (j + 1))
              case measure => omega
              case rel => exact ⟨j + 1, q, P, qg, qo, qc, by omega, rfl, by go_num, rfl, hu9, QU.out, OW.out, BF.out, HCL.out, fun v hv hE => by
                by_cases e : v = j
                · subst e; exact HM.out.1 (by omega)
                · exact HCJ.out v (by omega) hE, HEX.out⟩
          · have hx0b : decide (0 < x) = false := by simpa using hx0
            go_wp2_with fail
            go_roundg (N - (j + 1))
            case measure => omega
            case rel => exact ⟨j + 1, q, P, qg, qo, qc, by omega, rfl, by go_num, rfl, hu9, QU.out, OW.out, BF.out, HCL.out, fun v hv hE => by
              by_cases e : v = j
              · subst e; rw [HX1.out] at hE; omega
              · exact HCJ.out v (by omega) hE, HEX.out⟩
        · have hjz : ¬ (j : Int) < (N : Int) := by omega
          have hn1 : (1 : Int) ≤ ((q.length - d : Nat) : Int) := by omega
          have hdrop : (q.drop d).map encN = encN u :: (q.drop (d + 1)).map encN := by
            have e := List.drop_eq_getElem_cons hlt
            have e2 : q[d] = u := by have := hu9.out; rw [List.getElem?_eq_getElem hlt] at this; exact Option.some.inj this
            rw [e, List.map_cons, e2]
          rw [hdrop] at hq
          have htl := hq.tail
          have hl2 : q.length - d - 1 = q.length - (d + 1) := by omega
          have TL := Lib.hid htl; have OW := Lib.hid own; have BF := Lib.hid bfs; have HCL := Lib.hid hcl; have HCJ := Lib.hid hcj; have HEX := Lib.hid hext; have L2 := Lib.hid hl2
          have hlt' := Lib.hid hlt
          have hcl2 : ∀ s (hs : s < q.length), s < d + 1 → ∀ v, v < N → 0 < R q[s] v → v ∈ q := fun s hs hsd v hv hE => by
            by_cases e : s = d
            · subst e
              have e2 : q[s] = u := by have := hu9.out; rw [List.getElem?_eq_getElem hs] at this; exact Option.some.inj this
              exact hcj v (by omega) (e2 ▸ hE)
            · exact hcl s hs (by omega) v hv hE
          have HCL2 := Lib.hid hcl2
          clear hq htl own bfs hcl hcj hext hl2 hdrop hq0 hnl hcl2
          by_cases hc1 : qc = 1
          · subst hc1
            have hz0 : q.length - (d + 1) = 0 := by omega
            have HZ0 := Lib.hid hz0; clear hz0
            go_wp2_with fail
            go_roundg (N - (d + 1))
            case measure => omega
            case rel => exact ⟨d + 1, q, P, qg, qo, 0, by omega, rfl, by rw [HZ0.out], by simpa using TL.out, OW.out, BF.out, HCL2.out, HEX.out⟩
          · have hc2 : ¬ 1 = qc := fun e => hc1 e.symm
            go_wp2_with fail
            go_roundg (N - (d + 1))
            case measure => omega
            case rel => exact ⟨d + 1, q, P, qg, qo + 1, qc - 1, by omega, rfl, by rw [L2.out], by have := TL.out; rw [if_neg hc1] at this; exact this, OW.out, BF.out, HCL2.out, HEX.out⟩
    · have hz : ¬ (0 : Int) < ((q.length - d : Nat) : Int) := by omega
      have hzb : decide ((0 : Int) < ((q.length - d : Nat) : Int)) = false := by simpa using hz
      have hdl : q.length - d = 0 := by omega
      have OW := Lib.hid own; have BF := Lib.hid bfs; have HCL := Lib.hid hcl; have HEX := Lib.hid hext
      rw [hdl]
      clear own bfs hcl hext hq hz hzb
      go_wp2_with fail
      go_ret
      exact ⟨_, P, q, rfl, owns_base OW.out (by omega), BF.out, fun a ha v hv hE => by
        obtain ⟨s, hs, es⟩ := List.getElem_of_mem ha
        exact HCL.out s hs (by omega) v hv (by rw [es]; exact hE), HEX.out⟩
end Go.Proofs.Ytelcdjbbcffliaa
