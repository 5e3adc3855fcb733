/- The reader of a code of bytes: some number below a bound, its place one further. -/
import Derived.Test.YtelcdjbbcffliaaRows
import Derived.Test.YtelcdjbbcffliaaOwn
import Derived.Test.YtelcdjbbcffliaaTabEqI
import Derived.Test.YtelcdjbbcffliaaTabEqB
import Derived.Test.YtelcdjbbcffliaaShiftFill
/- The reader of a code of bytes: some number below a bound, its place one further. -/
namespace Go.Proofs.Ytelcdjbbcffliaa
open Go.RowKit Go.DC
/-- Block r is a reader that has read p bytes. -/
structure Rd (w : World) (r : Nat) (p : Nat) : Prop where
  ex : ∃ (a : Option Addr) (c : Nat) (zs : List Int), w.cell? ⟨r, 0, none⟩ = some (.slice a zs.length c) ∧ zs.length ≤ 2000 ∧ Bytes w a zs ∧ (0 < zs.length → ∀ b, a = some b → b.block < r)
  at1 : w.cell? ⟨r, 1, none⟩ = some (.int .i64 p)
  fr : w.frozen? ⟨r, 1, none⟩ = false

theorem Rd.ext {w w' : World} {r p : Nat} (h : Rd w r p) (e : Ext w w') : Rd w' r p := by
  obtain ⟨⟨a, c, zs, h0, hl, hb, hn⟩, h1, hf⟩ := h
  exact ⟨⟨a, c, zs, e.cell h0, hl, hb.ext e, hn⟩, e.cell h1, (e.frozen h1).trans hf⟩

/-- A draw: a number below n, the reader one further, all else as it was. -/
def Pick (n : Int) (r p : Nat) (w : World) (e : Ending) (w' : World) : Prop :=
  ∃ x : Int, 0 ≤ x ∧ (x < n ∨ x = 0) ∧ e = .returned (.int .i64 x) ∧ Rd w' r (p + 1) ∧ Keep r w w'

theorem Rd.step {w : World} {r p : Nat} (h : Rd w r p) (v : Int) (hv : v = p + 1) : Rd (w.setCell ⟨r, 1, none⟩ (.int .i64 v)) r (p + 1) := by
  obtain ⟨⟨a, c, zs, h0, hl, hb, hn⟩, h1, hf⟩ := h
  refine ⟨⟨a, c, zs, ?_, hl, ⟨fun k hk => ?_, hb.2⟩, hn⟩, ?_, ?_⟩
  · rw [World.cell?_setCell_other _ _ _ _ (fun e => by simp at e)]; exact h0
  · obtain ⟨b, off, rfl, hc⟩ := hb.1 k hk
    exact ⟨b, off, rfl, by rw [World.cell?_setCell_other _ _ _ _ (fun e => absurd (hn (by omega) _ rfl) (by rw [(congrArg Addr.block e).symm]; exact Nat.lt_irrefl _))]; exact hc⟩
  · rw [hv]; exact World.cell?_setCell_same' _ _ _ (by rw [h1]; rfl)
  · rw [World.frozen?_setCell]; exact hf

theorem Rd.setOther {w : World} {r p : Nat} (h : Rd w r p) (q : Addr) (hq : r < q.block) (v : Value) : Rd (w.setCell q v) r p := by
  obtain ⟨⟨a, c, zs, h0, hl, hb, hn⟩, h1, hf⟩ := h
  refine ⟨⟨a, c, zs, ?_, hl, ⟨fun k hk => ?_, hb.2⟩, hn⟩, ?_, ?_⟩
  · rw [World.cell?_setCell_other _ _ _ _ (fun e => absurd hq (by rw [e]; exact Nat.lt_irrefl _))]; exact h0
  · obtain ⟨b, off, rfl, hc⟩ := hb.1 k hk
    have hbr : b < r := hn (by omega) _ rfl
    exact ⟨b, off, rfl, by rw [World.cell?_setCell_other _ _ _ _ (fun e => absurd hq (by rw [e]; show ¬ r < b; omega))]; exact hc⟩
  · rw [World.cell?_setCell_other _ _ _ _ (fun e => absurd hq (by rw [e]; exact Nat.lt_irrefl _))]; exact h1
  · rw [World.frozen?_setCell]; exact hf

theorem Rd.lt {w : World} {r p : Nat} (h : Rd w r p) : r < w.heap.size := World.block_lt_of_cell? _ _ h.at1
/-- What keeps all from r on and below. -/
theorem Rd.grown {w w' : World} {r p : Nat} {row : Option Nat} (h : Rd w r p) (g : w.grownBy w' row) (hr : ∀ k, row = some k → r < k) : Rd w' r p := by
  obtain ⟨⟨a, c, zs, h0, hl, hb, hn⟩, h1, hf⟩ := h
  have hne : ∀ k, k ≤ r → some k ≠ row := fun k hk e => by have := hr k e.symm; omega
  refine ⟨⟨a, c, zs, g.cell h0 (hne _ (Nat.le_refl _)), hl, ⟨fun k hk => ?_, hb.2⟩, hn⟩, g.cell h1 (hne _ (Nat.le_refl _)), ?_⟩
  · obtain ⟨b, off, rfl, hc⟩ := hb.1 k hk
    have hbr : b < r := hn (by omega) _ rfl
    exact ⟨b, off, rfl, g.cell hc (hne _ (by show b ≤ r; omega))⟩
  · rw [World.frozen?_of_block (w := w) (g.block r (World.block_lt_of_cell? _ _ h1) (hne _ (Nat.le_refl _)))]; exact hf

theorem Rd.drew {w : World} {r p : Nat} (h : Rd w r p) : Rd w.drew r p := h.ext ((Ext.refl w).drew)
theorem Rd.drewN {w : World} {r p : Nat} (h : Rd w r p) (n : Nat) : Rd (w.drewN n) r p := h.ext ((Ext.refl w).drewN n)

theorem xor_nonneg (a b : Int) (h1 : 0 ≤ a) (h2 : a < 1099511627776) (h3 : 0 ≤ b) (h4 : b < 1099511627776) : 0 ≤ bits .xor .i64 a b := by
  obtain ⟨A, rfl⟩ := Int.eq_ofNat_of_zero_le h1
  obtain ⟨B, rfl⟩ := Int.eq_ofNat_of_zero_le h3
  have hx : A ^^^ B < 2 ^ 40 := Nat.xor_lt_two_pow (by omega) (by omega)
  show 0 ≤ IntKind.i64.wrap ((BitVec.ofInt 64 (A : Int) ^^^ BitVec.ofInt 64 (B : Int)).toNat : Int)
  rw [BitVec.toNat_xor, ofInt_u64 A (by omega), ofInt_u64 B (by omega), IntWalk.i64_in _ (by omega)]
  omega

set_option maxHeartbeats 1000000 in
theorem pick_any (r p : Nat) (n : Int) (w : World) (h : Rd w r p) (hp : p ≤ 1000000) (hn : n ≤ 1000000) :
    Calls Try.prog 47 #[.pointer (some ⟨r, 0, none⟩), .int .i64 n] w (Pick n r p w) := by
  have HR := Lib.hid h
  obtain ⟨⟨a, c, zs, h0, hl, hb, hne⟩, h1, hf⟩ := h
  have HB := Lib.hid hb; clear hb
  have HN := Lib.hid hne; clear hne
  by_cases hlow : n < 1
  · go_enter Try.func47, Try.ntmps47
    go_wp2
    go_ret
    exact ⟨0, by omega, by omega, rfl, HR.out.step _ rfl, (Keep.refl r w).setCell (p := ⟨r, 1, none⟩) rfl _⟩
  · have hlow' : decide (n < 1) = false := by simpa using hlow
    by_cases hz : zs.length = 0
    · have hzz : ((zs.length : Int) == 0) = true := by simp [hz]
      have HZ := Lib.hid hz; clear hz
      go_enter Try.func47, Try.ntmps47
      go_wp2
      go_ret
      exact ⟨0, by omega, by omega, rfl, HR.out.step _ rfl, (Keep.refl r w).setCell (p := ⟨r, 1, none⟩) rfl _⟩
    · have hzz : ((zs.length : Int) == 0) = false := by simpa using hz
      by_cases hlt : p < zs.length
      · have hltz : (p : Int) < (zs.length : Int) := by omega
        obtain ⟨b, off, rfl, hc⟩ := HB.out.1 p hlt
        have hbr : b ≠ r := Nat.ne_of_lt (HN.out (by omega) _ rfl)
        have hc' : (w.setCell ⟨r, 1, none⟩ (.int .i64 ((p : Int) + 1))).cell? ⟨b, off + p, none⟩ = some (.int .u8 (zs.getD p 0)) := by
          rw [World.cell?_setCell_other _ _ _ _ (fun e => hbr (congrArg Addr.block e).symm)]; exact hc
        have hbd := HB.out.2 (zs.getD p 0) (by rw [List.getD_eq_getElem?_getD, List.getElem?_eq_getElem hlt]; simp)
        obtain ⟨z, hzv⟩ : ∃ z, zs.getD p 0 = z := ⟨_, rfl⟩
        rw [hzv] at hc' hbd
        clear hzv hc
        obtain ⟨hz0, hz1⟩ := hbd
        have hm0 := Int.emod_nonneg z (show n ≠ 0 by omega)
        have hm1 := Int.emod_lt_of_pos z (show 0 < n by omega)
        go_enter Try.func47, Try.ntmps47
        go_wp2
        go_ret
        exact ⟨z % n, hm0, .inl hm1, rfl, HR.out.step _ rfl, (Keep.refl r w).setCell (p := ⟨r, 1, none⟩) rfl _⟩
      · have hltz : ¬ (p : Int) < (zs.length : Int) := by omega
        have hpos : 0 < zs.length := by omega
        have hm1 : p % zs.length < zs.length := Nat.mod_lt _ hpos
        have hm2 : (p * 7 + 3) % zs.length < zs.length := Nat.mod_lt _ hpos
        obtain ⟨b, off, rfl, hc⟩ := HB.out.1 (p % zs.length) hm1
        obtain ⟨b2, off2, hbb, hd⟩ := HB.out.1 ((p * 7 + 3) % zs.length) hm2
        cases hbb
        have hbr : b ≠ r := Nat.ne_of_lt (HN.out (by omega) _ rfl)
        have hc' : (w.setCell ⟨r, 1, none⟩ (.int .i64 ((p : Int) + 1))).cell? ⟨b, off + (p % zs.length), none⟩ = some (.int .u8 (zs.getD (p % zs.length) 0)) := by
          rw [World.cell?_setCell_other _ _ _ _ (fun e => hbr (congrArg Addr.block e).symm)]; exact hc
        have hd' : (w.setCell ⟨r, 1, none⟩ (.int .i64 ((p : Int) + 1))).cell? ⟨b, off + ((p * 7 + 3) % zs.length), none⟩ = some (.int .u8 (zs.getD ((p * 7 + 3) % zs.length) 0)) := by
          rw [World.cell?_setCell_other _ _ _ _ (fun e => hbr (congrArg Addr.block e).symm)]; exact hd
        have hbd1 := HB.out.2 (zs.getD (p % zs.length) 0) (by rw [List.getD_eq_getElem?_getD, List.getElem?_eq_getElem hm1]; simp)
        have hbd2 := HB.out.2 (zs.getD ((p * 7 + 3) % zs.length) 0) (by rw [List.getD_eq_getElem?_getD, List.getElem?_eq_getElem hm2]; simp)
        obtain ⟨z1, hzv1⟩ : ∃ z, zs.getD (p % zs.length) 0 = z := ⟨_, rfl⟩
        rw [hzv1] at hc' hbd1
        obtain ⟨z2, hzv2⟩ : ∃ z, zs.getD ((p * 7 + 3) % zs.length) 0 = z := ⟨_, rfl⟩
        rw [hzv2] at hd' hbd2
        clear hzv1 hzv2 hc hd
        obtain ⟨hz10, hz11⟩ := hbd1
        obtain ⟨hz20, hz21⟩ := hbd2
        have t1 : (p : Int).tmod (zs.length : Int) = ((p % zs.length : Nat) : Int) := by rw [Int.ofNat_tmod]
        have t2 : ((p : Int) * 7 + 3).tmod (zs.length : Int) = (((p * 7 + 3) % zs.length : Nat) : Int) := by
          rw [show ((p : Int) * 7 + 3) = ((p * 7 + 3 : Nat) : Int) by omega, Int.ofNat_tmod]
        have t3 : (p : Int).tdiv (zs.length : Int) = ((p / zs.length : Nat) : Int) := by rw [Int.ofNat_tdiv]
        have hq : p / zs.length ≤ p := Nat.div_le_self _ _
        obtain ⟨u, hu⟩ : ∃ u, p % zs.length = u := ⟨_, rfl⟩
        obtain ⟨v, hv⟩ : ∃ v, (p * 7 + 3) % zs.length = v := ⟨_, rfl⟩
        obtain ⟨q, hqv⟩ : ∃ q, p / zs.length = q := ⟨_, rfl⟩
        rw [hu] at t1 hm1 hc'
        rw [hv] at t2 hm2 hd'
        rw [hqv] at t3 hq
        clear hu hv hqv
        have hm1z : (u : Int) < (zs.length : Int) := by omega
        have hm2z : (v : Int) < (zs.length : Int) := by omega
        go_enter Try.func47, Try.ntmps47
        go_wp2
        go_quiet (fail)
        go_wp2
        go_ret
        have hx := xor_nonneg (z1 * 131 + z2 * 1117 + ↑p * 29 + ↑q * 53) ((z1 * 131 + z2 * 1117 + ↑p * 29 + ↑q * 53) / 64) (by omega) (by omega) (by omega) (by omega)
        refine ⟨_, Int.tmod_nonneg n hx, .inl (Int.tmod_lt_of_pos _ (by omega)), rfl, (HR.out.step _ rfl).drewN _, ((Keep.refl r w).setCell (p := ⟨r, 1, none⟩) rfl _).drewN _⟩

/-- A new reader. -/
def NewRd (w : World) (e : Ending) (w' : World) : Prop := ∃ r : Nat, w.heap.size ≤ r ∧ e = .returned (.pointer (some ⟨r, 0, none⟩)) ∧ Rd w' r 0 ∧ Ext w w'

theorem Bytes.take {w : World} {a : Option Addr} {zs : List Int} (h : Bytes w a zs) (n : Nat) (hn : n ≤ zs.length) : Bytes w a (zs.take n) := by
  refine ⟨fun k hk => ?_, fun z hz => h.2 z (List.mem_of_mem_take hz)⟩
  have hk' : k < n := by simpa [List.length_take, Nat.min_eq_left hn] using hk
  obtain ⟨b, off, ha, hc⟩ := h.1 k (by omega)
  refine ⟨b, off, ha, hc.trans ?_⟩
  simp only [List.getD_eq_getElem?_getD, List.getElem?_take]
  rw [if_pos hk']

theorem Bytes.below {w : World} {a : Option Addr} {zs : List Int} (h : Bytes w a zs) (hz : 0 < zs.length) : ∃ x, a = some x ∧ x.block < w.heap.size := by
  obtain ⟨b, off, ha, hc⟩ := h.1 0 hz
  exact ⟨_, ha, World.block_lt_of_cell? _ _ hc⟩

theorem rd_new {w : World} {a : Option Addr} {zs : List Int} (c : Nat) (t : TypeId) (h : Bytes w a zs) (hl : zs.length ≤ 2000) :
    Rd (w.alloc (.cells #[.slice a zs.length c, .int .i64 0] t)) w.heap.size 0 := by
  refine ⟨⟨a, c, zs, by simp [go_sem], hl, h.ext ((Ext.refl _).alloc _), fun hz b hb => ?_⟩, by simp [go_sem], by simp [go_sem]⟩
  subst hb
  obtain ⟨x, h1, h2⟩ := Bytes.below h hz
  cases h1; exact h2

set_option maxHeartbeats 1000000 in
theorem l6Open_any (a : Option Addr) (c : Nat) (zs : List Int) (w : World) (hb : Bytes w a zs) (hm : zs.length ≤ 9223372036854775807) (hcap : zs.length ≤ c) :
    Calls Try.prog 41 #[.slice a zs.length c] w (NewRd w) := by
  have HB := Lib.hid hb; clear hb
  by_cases hl : 2000 < zs.length
  · have hlz : (2000 : Int) < (zs.length : Int) := by omega
    have hcz : (2000 : Int) ≤ (c : Int) := by omega
    have hcn : 2000 ≤ c := by omega
    go_enter Try.func41, Try.ntmps41
    go_wp2
    go_ret
    have hlen : (zs.take 2000).length = 2000 := by rw [List.length_take]; omega
    have h := rd_new c 74 (Bytes.take HB.out 2000 (by omega)) (by omega)
    rw [hlen] at h
    exact ⟨w.heap.size, Nat.le_refl _, rfl, h, (Ext.refl _).alloc _⟩
  · have hlz : ¬ (2000 : Int) < (zs.length : Int) := by omega
    go_enter Try.func41, Try.ntmps41
    go_wp2
    go_ret
    exact ⟨w.heap.size, Nat.le_refl _, rfl, rd_new c 74 HB.out (by omega), (Ext.refl _).alloc _⟩
end Go.Proofs.Ytelcdjbbcffliaa

/- Drawn tables and masks. -/
namespace Go.Proofs.Ytelcdjbbcffliaa
open Go.RowKit Go.DC
set_option maxHeartbeats 1000000 in
theorem l11Blank_any (h m : Nat) (w : World) (hh : h ≤ 8) (hm : m ≤ 8) :
    Calls Try.prog 76 #[.int .i64 h, .int .i64 m] w (NewTab encI 3 28 (List.replicate h (List.replicate m 0)) w) := by
  have hmk := run_make_row' (P := Try.prog) 28 3 (.int .i64 0) 8 Try.underlying28 Try.dcElemI rfl .i64 .i64 m (by omega) (by omega)
  go_enter Try.func76, Try.ntmps76
  go_wp2_with fail
  go_loopg [5, 6] h (fun g v i wr => ∃ (k : Nat) (vs : List Value), k ≤ h ∧ g = h - k ∧ i = .int .i64 k ∧ OwnI wr w.heap.size v vs (List.replicate k (List.replicate m 0)) ∧ Ext w wr)
  case atStart => exact ⟨0, [], Nat.zero_le _, rfl, rfl, by simpa using ownT_empty (enc := encI) (te := 3) (ts := 28) w (Nat.le_refl _), (Ext.refl _).alloc _⟩
  case round =>
    obtain ⟨k, vs, hk, rfl, rfl, own, hext⟩ := hrel
    by_cases hlt : k < h
    · have hz : (k : Int) < (h : Int) := by omega
      have hsz := hext.size
      obtain ⟨av, cv, hv, _, _⟩ := own.rows
      rw [List.length_replicate] at hv
      subst hv
      have x1 := ((Ext.refl wr).alloc (.cells (madeCells #[.int .i64 0] m) 3))
      have x2 := x1.alloc (.cells #[.slice (some ⟨wr.heap.size, 0, none⟩) m m] 28)
      have own2 := own.ext x2
      have hu2 : ((wr.alloc (.cells (madeCells #[.int .i64 0] m) 3)).alloc (.cells #[.slice (some ⟨wr.heap.size, 0, none⟩) m m] 28)).ownsRow w.heap.size 3 1 (.slice (some ⟨wr.heap.size, 0, none⟩) m m) (List.replicate m (0 : Int)).length ((List.replicate m (0 : Int)).map encI) :=
        owns_ext (by
          have := World.ownsRow_lit (base := w.heap.size) (e := 3) (size := 1) wr (madeCells #[.int .i64 0] m) m hsz (by unfold maxLen; omega) (by simp [size_madeCells])
          rw [toList_madeCells_one] at this
          simpa using this) ((Ext.refl _).alloc _)
      have hne : ∀ b, (Value.slice (some (⟨wr.heap.size, 0, none⟩ : Addr)) m m).ownBlock = some b → (Value.slice av k cv).ownBlock ≠ some b := fun b hb h => by
        have h2 := (own.outer_lt h).2
        simp [Value.ownBlock] at hb
        omega
      have hap : ∀ l (_ : l < vs.length), ∀ b, (Value.slice (some (⟨wr.heap.size, 0, none⟩ : Addr)) m m).ownBlock = some b → vs[l].ownBlock ≠ some b := fun l hl b hb h => by
        have h2 := (own.inner_lt hl h).2
        simp [Value.ownBlock] at hb
        omega
      have hcell : ((wr.alloc (.cells (madeCells #[.int .i64 0] m) 3)).alloc (.cells #[.slice (some ⟨wr.heap.size, 0, none⟩) m m] 28)).cell? ⟨wr.heap.size + 1, 0, none⟩ = some (.slice (some ⟨wr.heap.size, 0, none⟩) m m) := by simp [go_sem]
      have hB : w.heap.size ≤ ((wr.alloc (.cells (madeCells #[.int .i64 0] m) 3)).alloc (.cells #[.slice (some ⟨wr.heap.size, 0, none⟩) m m] 28)).heap.size := by simp; omega
      have hlt2 : (List.replicate k (List.replicate m (0 : Int))).length ≤ 10000000 := by simp; omega
      have hat : ∀ k', (Value.slice av k cv).ownBlock = some k' → w.heap.size ≤ k' := fun k' hk' => (own.outer_lt hk').1
      have O2 := Lib.hid own2; have U2 := Lib.hid hu2; have NE := Lib.hid hne; have AP := Lib.hid hap; have HC := Lib.hid hcell; have HA := Lib.hid hat
      clear own2 hu2 hne hap hcell hat own
      go_wp2_with (at_builtin; refine wpList_pushI rfl (.tmp 13) (.tmp 16) rfl w.heap.size _ vs (List.replicate k (List.replicate m 0)) rfl O2.out (wr.heap.size + 1) rfl _ rfl HC.out (List.replicate m 0) U2.out NE.out AP.out hlt2 hB ?_; intro v' w2 own3 hg2 _)
      have hext2 : Ext w w2 := (hext.trans x2).grownNew hg2 HA.out
      rw [show List.replicate k (List.replicate m (0 : Int)) ++ [List.replicate m 0] = List.replicate (k + 1) (List.replicate m 0) by rw [List.replicate_succ']] at own3
      clear hg2 O2 U2 NE AP HC
      go_wp2_with fail
      go_roundg (h - (k + 1))
      case measure => omega
      case rel => exact ⟨k + 1, _, by omega, rfl, by go_num, own3, hext2⟩
    · have hz : ¬ (k : Int) < (h : Int) := by omega
      go_wp2_with fail
      go_ret
      have hkh : k = h := by omega
      subst hkh
      exact ⟨_, vs, rfl, own, hext⟩
/-- A drawn table. -/
def TabOut (r p : Nat) (w : World) (e : Ending) (w' : World) : Prop :=
  ∃ v vs t, e = .returned v ∧ OwnI w' w.heap.size v vs t ∧ t.length ≤ 4 ∧ (∀ x ∈ t, x.length ≤ 4) ∧ (∃ p', p' ≤ p + 20 ∧ Rd w' r p') ∧ Keep r w w'

theorem grown_keep_cell {W W' : World} {b m ck o i : Nat} {v : Value} (g : W.grownBy W' (Value.slice (some (⟨b, 0, none⟩ : Addr)) m ck).ownBlock) (hc : W.cell? ⟨o, i, none⟩ = some v) (hf : W.frozen? ⟨o, i, none⟩ = false) (hbo : b ≠ o) :
    W'.cell? ⟨o, i, none⟩ = some v ∧ W'.frozen? ⟨o, i, none⟩ = false := by
  have hne : some o ≠ (Value.slice (some (⟨b, 0, none⟩ : Addr)) m ck).ownBlock := by simp [Value.ownBlock]; omega
  exact ⟨g.cell hc hne, by rw [World.frozen?_of_block (w := W) (g.block o (World.block_lt_of_cell? _ _ hc) hne)]; exact hf⟩
def lit3v (a b c z : Int) : Int := if z = 0 then a else if z = 1 then b else c
theorem lit3 (a b c z : Int) (h0 : 0 ≤ z) (h3 : z < 3) : ([.int .i64 a, .int .i64 b, .int .i64 c] : List Value)[z.toNat]? = some (.int .i64 (lit3v a b c z)) := by
  rcases (by omega : z = 0 ∨ z = 1 ∨ z = 2) with e | e | e <;> subst e <;> rfl
theorem lit3_cell (W : World) (t : TypeId) (a b c z : Int) (h0 : 0 ≤ z) (h3 : z < 3) : (W.alloc (.cells #[.int .i64 a, .int .i64 b, .int .i64 c] t)).cell? ⟨W.heap.size, z.toNat, none⟩ = some (.int .i64 (lit3v a b c z)) := by
  rcases (by omega : z = 0 ∨ z = 1 ∨ z = 2) with e | e | e <;> subst e <;> simp [go_sem, lit3v]

theorem rd_only {r p : Nat} {S : Nat → Prop} {w w' : World} (h : Rd w r p) (k : Only S w w') (hr : ∀ b, S b → r < b) : Rd w' r p := by
  obtain ⟨⟨a, c, zs, h0, hl, hb, hn⟩, h1, hf⟩ := h
  have hne : ∀ k, k ≤ r → ¬ S k := fun k hk e => by have := hr k e; omega
  refine ⟨⟨a, c, zs, k.cell (hne _ (Nat.le_refl _)) h0, hl, ⟨fun i hi => ?_, hb.2⟩, hn⟩, k.cell (hne _ (Nat.le_refl _)) h1, ?_⟩
  · obtain ⟨b, off, rfl, hc⟩ := hb.1 i hi
    have hbr : b < r := hn (by omega) _ rfl
    exact ⟨b, off, rfl, k.cell (hne _ (by show b ≤ r; omega)) hc⟩
  · rw [World.frozen?_of_block (w := w) (k.block r (World.block_lt_of_cell? _ _ h1) (hne _ (Nat.le_refl _)))]; exact hf

set_option maxHeartbeats 2000000 in
theorem l92Table_any (r p : Nat) (most : Int) (w : World) (h : Rd w r p) (hp : p ≤ 800000) (hm0 : 0 ≤ most) (hm : most ≤ 1000) :
    Calls Try.prog 67 #[.pointer (some ⟨r, 0, none⟩), .int .i64 most] w (TabOut r p w) := by
  have hr := h.lt
  go_enter Try.func67, Try.ntmps67
  go_wp2_with fail
  refine (pick_any r p 3 _ h (by omega) (by omega)).mono ?_
  rintro e w1 ⟨x1, hx1, hx1', rfl, R1, k1⟩
  go_wp2_with fail
  refine (pick_any r (p + 1) 3 _ R1 (by omega) (by omega)).mono ?_
  rintro e w2 ⟨x2, hx2, hx2', rfl, R2, k2⟩
  go_wp2_with fail
  refine (pick_any r (p + 1 + 1) 3 _ R2 (by omega) (by omega)).mono ?_
  rintro e w3 ⟨x3, hx3, hx3', rfl, R3, k3⟩
  have K3 := (k1.trans k2).trans k3
  clear k1 k2 k3 R1 R2
  go_upto_if 18 with fail
  go_cut [5] (fun s wx => ∃ (hN q : Nat), s = .int .i64 hN ∧ 1 ≤ hN ∧ hN ≤ 4 ∧ q ≤ p + 4 ∧ Rd wx r q ∧ Keep r w wx)
  case first =>
    by_cases y0 : x3 = 0
    · subst y0
      go_wp2_with fail
      refine (pick_any r (p + 1 + 1 + 1) 3 _ R3 (by omega) (by omega)).mono ?_
      rintro e w4 ⟨x4, hx4, hx4', rfl, R4, k4⟩
      go_wp2_with fail
      go_meet
      exact ⟨(2 + x4).toNat, p + 4, by congr 1; omega, by omega, by omega, Nat.le_refl _, R4, K3.trans k4⟩
    · have y0b : (x3 == 0) = false := by simpa using y0
      go_wp2_with fail
      go_meet
      exact ⟨(1 + x1).toNat, p + 3, by congr 1; omega, by omega, by omega, by omega, R3, K3⟩
  case rest =>
    obtain ⟨hN, q, rfl, hN1, hN4, hq, R4, K4⟩ := hcut
    obtain ⟨mN, hmN⟩ : ∃ mN : Nat, (mN : Int) = 1 + x2 := ⟨(1 + x2).toNat, by omega⟩
    have hmN1 : 1 ≤ mN ∧ mN ≤ 3 := by omega
    rw [← hmN]
    clear hmN hx2 hx2' K3 R3
    obtain ⟨hmN0, hmN3⟩ := hmN1
    go_wp2_with fail
    refine (l11Blank_any hN mN _ (by omega) (by omega)).mono ?_
    rintro e w5 ⟨v, vs, rfl, own, e5⟩
    rw [replicate_tab] at own
    obtain ⟨av, cv, hv, _, _, _⟩ := own.rows
    rw [tabOf_length] at hv
    subst hv
    have R5 := R4.ext e5
    have K5 : Keep r w w5 := K4.trans (Keep.of_ext e5)
    have hrB : r < wc.heap.size := R4.lt
    have hwB : w.heap.size ≤ wc.heap.size := K4.size
    clear R4 K4 e5
    go_wp2_with fail
    go_loopg [8] hN (fun gh i wr => ∃ (k q' : Nat) (g : Nat → Nat → Int), k ≤ hN ∧ gh = hN - k ∧ i = .int .i64 k ∧ q' ≤ q + k * mN ∧ OwnI wr wc.heap.size (.slice av hN cv) vs (tabOf hN mN g) ∧ Rd wr r q' ∧ Keep r w wr)
    case atStart => exact ⟨0, q, _, Nat.zero_le _, rfl, rfl, by simp, own, R5, K5⟩
    case round =>
      clear own R5 K5
      obtain ⟨k, q', g, hk, rfl, rfl, hq', own, R, K⟩ := hrel
      by_cases hlt : k < hN
      · have hz : (k : Int) < (hN : Int) := by omega
        have hkm : k * mN + mN ≤ 12 := by
          have : (k + 1) * mN ≤ 4 * 3 := Nat.mul_le_mul (by omega) (by omega)
          rw [Nat.add_mul] at this
          omega
        go_wp2_with fail
        go_loopg [9] mN (fun gh i wi => ∃ (j q'' : Nat) (g : Nat → Nat → Int), j ≤ mN ∧ gh = mN - j ∧ i = .int .i64 j ∧ q'' ≤ q + k * mN + j ∧ OwnI wi wc.heap.size (.slice av hN cv) vs (tabOf hN mN g) ∧ Rd wi r q'' ∧ Keep r w wi)
        case atStart => exact ⟨0, q', g, Nat.zero_le _, rfl, rfl, by omega, own, R, K⟩
        case round =>
          clear own R K hq'
          obtain ⟨j, q2, g2, hj, rfl, rfl, hq2, own, R, K⟩ := hrel
          by_cases hjt : j < mN
          · have hjz : (j : Int) < (mN : Int) := by omega
            obtain ⟨o, co, b, ck, ev, ho, co1, hb, hbo, hvs, cg, fg, _⟩ := own.atC hlt hjt
            cases ev
            have hbr : b ≠ r := by omega
            have hor : o ≠ r := by omega
            unfold encI at cg
            have OW := Lib.hid own; clear own
            have hwr : IntKind.i64.wrap (most + 1) ≤ 1000000 := by rw [IntWalk.i64_in _ (by omega)]; omega
            go_wp2_with fail
            go_region_with (go_at_call 47; refine (pick_any r q2 _ _ R.drew (by omega) hwr).mono ?_; rintro e w6 ⟨y, hy0, hy1, rfl, R6, k6⟩; have d1 := k6.cell (p := ⟨o, k, none⟩) hor co1; have d2 := k6.cell (p := ⟨b, j, none⟩) hbr cg; have d3 := (k6.frozen (p := ⟨b, j, none⟩) hbr cg).trans fg)
            all_goals
              go_wp2_with fail
              go_roundg (mN - (j + 1))
              case measure => omega
              case rel => exact ⟨j + 1, q2 + 1, _, by omega, rfl, by go_num, by omega, ((OW.out.ext ((Ext.refl _).drew)).keep k6 hrB).setC (j := j) hlt hvs y, R6.setOther ⟨b, j, none⟩ (by show r < b; omega) _, (K.drew.trans k6).setNew (p := ⟨b, j, none⟩) (by show w.heap.size ≤ b; omega) _⟩
          · have hjz : ¬ (j : Int) < (mN : Int) := by omega
            have hjm : j = mN := by omega
            have HJ := Lib.hid hjm; clear hjm
            go_wp2_with fail
            go_roundg (hN - (k + 1))
            case measure => omega
            case rel => exact ⟨k + 1, q2, g2, by omega, rfl, by go_num, by rw [Nat.add_mul]; have := HJ.out; omega, own, R, K⟩
      · have hz : ¬ (k : Int) < (hN : Int) := by omega
        have hqq : q' ≤ p + 4 + 12 := by
          have : k * mN ≤ 4 * 3 := Nat.mul_le_mul (by omega) (by omega)
          omega
        go_wp2_with fail
        refine (pick_any r q' 40 _ R (by omega) (by omega)).mono ?_
        rintro e w6 ⟨y, hy0, hy1, rfl, R6, k6⟩
        have own6 := own.keep k6 hrB
        have K6 := K.trans k6
        clear own R K k6
        have hsm : ∀ x ∈ tabOf hN mN g, x.length ≤ 4 := fun x hx => by
          obtain ⟨i, hi, rfl⟩ := List.getElem_of_mem hx
          rw [tabOf_rowlen]; omega
        have HSM := Lib.hid hsm; clear hsm
        have own0 := own6.base hwB
        have h00 : 0 < hN := by omega
        obtain ⟨o, co, b, ck, ev, ho, co1, hb, hbo, hvs, cg, fg, fo⟩ := own6.atC h00 (by omega : 0 < mN)
        cases ev
        have hzN : (0 : Int) < (hN : Int) := by omega
        have hzM : (0 : Int) < (mN : Int) := by omega
        unfold encI at cg
        have hor : o ≠ r := by omega
        have hbr : b ≠ r := by omega
        by_cases y0 : y = 0
        · subst y0
          have OW := Lib.hid own6
          go_wp2_with fail
          have Ea : Ext w6 (w6.alloc (.cells #[.int .i64 (-1), .int .i64 100, .int .i64 99] 3)).drew := ((Ext.refl w6).alloc _).drew
          have Eb : Ext w6 w6.drew := (Ext.refl w6).drew
          have Ra := Lib.hid (R6.ext Ea); have Rb := Lib.hid (R6.ext Eb)
          have Ca := Lib.hid (Ea.cell co1); have Cb := Lib.hid (Eb.cell co1)
          have Da := Lib.hid (Ea.cell cg); have Db := Lib.hid (Eb.cell cg)
          have Fa := Lib.hid ((Ea.frozen cg).trans fg); have Fb := Lib.hid ((Eb.frozen cg).trans fg)
          have c6 := ((Ext.refl w6).alloc (.cells #[.int .i64 (-1), .int .i64 100, .int .i64 99] 3)).cell co1
          have c6' := Ca.out
          go_region_with (go_at_call 47; first
            | (refine (pick_any r (q' + 1) 3 _ Ra.out (by omega) (by omega)).mono ?_; rintro e w7 ⟨z, hz0, hz1, rfl, R7, k7⟩; have hz3 : z < 3 := (by omega); have d0 := k7.cell (p := ⟨o, 0, none⟩) hor Ca.out; have d1 := k7.cell (p := ⟨b, 0, none⟩) hbr Da.out; have d2 := (k7.frozen (p := ⟨b, 0, none⟩) hbr Da.out).trans Fa.out; have d3 := k7.cell (p := ⟨w6.heap.size, z.toNat, none⟩) (Nat.ne_of_gt R6.lt) (lit3_cell w6 3 (-1) 100 99 z hz0 hz3))
            | (refine (pick_any r (q' + 1) 3 _ Rb.out (by omega) (by omega)).mono ?_; rintro e w7 ⟨z, hz0, hz1, rfl, R7, k7⟩; have hz3 : z < 3 := (by omega); have hL := lit3 (-1) 100 99 z hz0 hz3; have d0 := k7.cell (p := ⟨o, 0, none⟩) hor Cb.out; have d1 := k7.cell (p := ⟨b, 0, none⟩) hbr Db.out; have d2 := (k7.frozen (p := ⟨b, 0, none⟩) hbr Db.out).trans Fb.out; have x7 := (Ext.refl w7).alloc (.cells #[.int .i64 (-1), .int .i64 100, .int .i64 99] 3); have d0' := x7.cell d0; have d1' := x7.cell d1; have d2' := (x7.frozen d1).trans d2; have d3' := lit3_cell w7 3 (-1) 100 99 z hz0 hz3))
          all_goals
            go_wp2_with fail
            go_ret
            have hx8 : ∀ (g' : Nat → Nat → Int), ∀ x ∈ tabOf hN mN g', x.length ≤ 4 := fun g' x hx => by
              obtain ⟨i, hi, rfl⟩ := List.getElem_of_mem hx
              rw [tabOf_rowlen]; omega
            first
              | exact ⟨_, vs, _, rfl, (((OW.out.ext Ea).keep k7 hrB).setC h00 hvs (lit3v (-1) 100 99 z)).base hwB, by rw [tabOf_length]; omega, hx8 _, ⟨q' + 1 + 1, by omega, R7.setOther ⟨b, 0, none⟩ (by show r < b; omega) _⟩, ((K6.trans (Keep.of_ext Ea)).trans k7).setNew (p := ⟨b, 0, none⟩) (by show w.heap.size ≤ b; omega) _⟩
              | exact ⟨_, vs, _, rfl, ((((OW.out.ext Eb).keep k7 hrB).ext x7).setC h00 hvs (lit3v (-1) 100 99 z)).base hwB, by rw [tabOf_length]; omega, hx8 _, ⟨q' + 1 + 1, by omega, (R7.ext x7).setOther ⟨b, 0, none⟩ (by show r < b; omega) _⟩, (((K6.trans (Keep.of_ext Eb)).trans k7).trans (Keep.of_ext x7)).setNew (p := ⟨b, 0, none⟩) (by show w.heap.size ≤ b; omega) _⟩
        · have y0b : (y == 0) = false := by simpa using y0
          by_cases y1 : y = 1
          · subst y1
            have h0t : 0 < (tabOf hN mN g).length := by rw [tabOf_length]; exact h00
            have h0v : 0 < vs.length := by rw [own6.len]; exact h0t
            have hin := own6.inner 0 h0t h0v
            have ev0 : vs[0] = .slice (some ⟨b, 0, none⟩) mN ck := by
              rw [List.getElem?_eq_getElem h0v] at hvs; exact Option.some.inj hvs
            rw [ev0] at hin
            have hin1 := owns_ext hin ((Ext.refl _).alloc (.cells #[.int .i64 1] 3))
            have hrow1 : IRow (w6.alloc (.cells #[.int .i64 1] 3)) (some ⟨w6.heap.size, 0, none⟩) [1] := fun i hi => ⟨w6.heap.size, 0, rfl, by
              have : i = 0 := by simpa using hi
              subst this
              simp [go_sem]⟩
            have hbb : (tabOf hN mN g)[0].length + ([1] : List Int).length ≤ 10000000 := by rw [tabOf_rowlen]; simp; omega
            have hwB2 : wc.heap.size ≤ (w6.alloc (.cells #[.int .i64 1] 3)).heap.size := by have := (own6.outer_lt rfl); simp; omega
            have hco1 := ((Ext.refl w6).alloc (.cells #[.int .i64 1] 3)).cell co1
            have hfo1 : (w6.alloc (.cells #[.int .i64 1] 3)).frozen? ⟨o, 0, none⟩ = false := (((Ext.refl w6).alloc (.cells #[.int .i64 1] 3)).frozen co1).trans fo
            have HI := Lib.hid hin1; have HR1 := Lib.hid hrow1; have OW := Lib.hid own6; have EV := Lib.hid ev0
            clear hin hin1 hrow1 own6 own0 ev0
            go_wp2_with (at_builtin; refine wpList_rowI rfl (.tmp 63) (.tmp 64) rfl wc.heap.size _ (tabOf hN mN g)[0] rfl HI.out _ _ [1] rfl (fun h => by cases h) HR1.out hbb hwB2 ?_; intro v' w8 hu hg8 _ hat8; obtain ⟨hco8, hfo8⟩ := grown_keep_cell hg8 hco1 hfo1 hbo; obtain ⟨au, cu, hv8, _⟩ := owns_cells hu; subst hv8; have HU := Lib.hid hu; have HG := Lib.hid hg8; have HAT := Lib.hid hat8; clear hu hg8 hat8)
            go_ret
            have hreg := (OW.out.ext ((Ext.refl w6).alloc (.cells #[.int .i64 1] 3))).regrow (k := 0) h0t h0v (by rw [EV.out]; exact HG.out) HU.out (by
              rw [EV.out]
              exact HAT.out.imp_right fun e => ⟨_, e, Nat.le_refl _⟩)
            have hlen1 : ((tabOf hN mN g)[0] ++ [1]).length = (tabOf hN mN g)[0].length + 1 := by simp
            rw [hlen1] at hreg
            refine ⟨_, _, _, rfl, hreg.base hwB, by simp [tabOf_length]; omega, fun x hx => ?_, ⟨q' + 1, by omega, ?_⟩, ?_⟩
            · rcases List.mem_or_eq_of_mem_set hx with h1 | h1
              · exact HSM.out x h1
              · subst h1; rw [hlen1, tabOf_rowlen]; omega
            · exact ((R6.ext ((Ext.refl _).alloc _)).grown HG.out (fun k hk => by cases hk; show r < b; omega)).setOther ⟨o, 0, none⟩ (by show r < o; omega) _
            · exact ((K6.alloc _).grownNew HG.out (fun k hk => by cases hk; show w.heap.size ≤ b; omega)).setNew (p := ⟨o, 0, none⟩) (by show w.heap.size ≤ o; omega) _
          · have y1b : (y == 1) = false := by simpa using y1
            by_cases y2 : y = 2
            · subst y2
              go_wp2_with fail
              go_ret
              exact ⟨_, [], [], rfl, ownT_empty w6 K6.size, by simp, fun x hx => by simp at hx, ⟨q' + 1, by omega, R6.ext ((Ext.refl _).alloc _)⟩, K6.alloc _⟩
            · have y2b : (y == 2) = false := by simpa using y2
              go_wp2_with fail
              go_ret
              exact ⟨_, vs, _, rfl, own0, by rw [tabOf_length]; omega, HSM.out, ⟨q' + 1, by omega, R6⟩, K6⟩
end Go.Proofs.Ytelcdjbbcffliaa

/- Drawn masks. -/
namespace Go.Proofs.Ytelcdjbbcffliaa
open Go.RowKit Go.DC
/-- A drawn mask. -/
def MaskOut (r p : Nat) (w : World) (e : Ending) (w' : World) : Prop :=
  ∃ v vs m, e = .returned v ∧ OwnB w' w.heap.size v vs m ∧ m.length ≤ 5 ∧ (∀ x ∈ m, x.length ≤ 4) ∧ (∃ p', p' ≤ p + 18 ∧ Rd w' r p') ∧ Keep r w w'
theorem small_app {m : List (List Bool)} {zs : List Bool} {n : Nat} (h : ∀ x ∈ m, x.length ≤ n) (hz : zs.length ≤ n) : ∀ x ∈ m ++ [zs], x.length ≤ n := fun x hx => by
  rcases List.mem_append.1 hx with h1 | h1
  · exact h x h1
  · rw [List.mem_singleton.1 h1]; exact hz
set_option maxHeartbeats 4000000 in
theorem l92Mask_any (r p B0 : Nat) (a : Option Addr) (c : Nat) (vst : List Value) (t : List (List Int)) (w : World) (h : Rd w r p) (hp : p ≤ 900000) (ot : OwnI w B0 (.slice a t.length c) vst t) (hr : r < B0) (hl : t.length ≤ 4) (hll : ∀ x ∈ t, x.length ≤ 4) :
    Calls Try.prog 68 #[.pointer (some ⟨r, 0, none⟩), .slice a t.length c] w (MaskOut r p w) := by
  have OT := Lib.hid ot; clear ot
  have HL := Lib.hid hll; clear hll
  have hrB : r < w.heap.size := h.lt
  have R0 := h.ext ((Ext.refl w).alloc (.cells #[] 53))
  go_enter Try.func68, Try.ntmps68
  go_wp2_with fail
  refine (pick_any r p 3 _ R0 (by omega) (by omega)).mono ?_
  rintro e w1 ⟨x1, hx1, hx1', rfl, R1, k1⟩
  have own0 : OwnB w1 w.heap.size (.slice (some ⟨w.heap.size, 0, none⟩) 0 0) [] [] := (ownT_empty (enc := encB) (te := 4) (ts := 53) w (Nat.le_refl _)).keep k1 hrB
  have K1 : Keep r w w1 := (Keep.of_ext ((Ext.refl w).alloc (.cells #[] 53))).trans k1
  clear R0 k1
  go_wp2_with fail
  go_loopg [5, 7] t.length (fun g v i wr => ∃ (k q : Nat) (vs : List Value) (m : List (List Bool)), k ≤ t.length ∧ g = t.length - k ∧ i = .int .i64 k ∧ OwnB wr w.heap.size v vs m ∧ m.length = k ∧ (∀ x ∈ m, x.length ≤ 4) ∧ q ≤ p + 1 + k * 4 ∧ Rd wr r q ∧ Keep r w wr)
  case atStart => exact ⟨0, p + 1, [], [], Nat.zero_le _, rfl, rfl, own0, rfl, fun x hx => by simp at hx, by omega, R1, K1⟩
  case round =>
    clear own0 R1 K1
    obtain ⟨k, q, vs, m, hk, rfl, rfl, own, hmk, hm4, hq, R, K⟩ := hrel
    have HM4 := Lib.hid hm4; have HMK := Lib.hid hmk; have hmk4 : m.length ≤ 4 := (by omega); clear hm4 hmk
    by_cases hlt : k < t.length
    · have hz : (k : Int) < (t.length : Int) := by omega
      have hsz := K.size
      have hlk : t[k].length ≤ 4 := HL.out _ (List.getElem_mem hlt)
      obtain ⟨av, cv, hv, _, _⟩ := own.rows
      subst hv
      have bld0 := Bld.start own hsz
      have xa := (Ext.refl wr).alloc (.cells #[] 4)
      have hat : ∀ k', (Value.slice av m.length cv).ownBlock = some k' → w.heap.size ≤ k' := fun k' hk' => (own.outer_lt hk').1
      have HA := Lib.hid hat
      have R2 := R.ext xa
      have K2 : Keep r w (wr.alloc (.cells #[] 4)) := K.trans (Keep.of_ext xa)
      clear own hat R K xa
      go_wp2_with fail
      go_loopg [8, 9] t[k].length (fun g v' i wi => ∃ (j q' : Nat) (zs : List Bool), j ≤ t[k].length ∧ g = t[k].length - j ∧ i = .int .i64 j ∧ BldB wi w.heap.size (.slice av m.length cv) vs m v' zs ∧ zs.length = j ∧ q' ≤ p + 1 + k * 4 + j ∧ Rd wi r q' ∧ Keep r w wi)
      case atStart => exact ⟨0, q, [], Nat.zero_le _, rfl, rfl, bld0, rfl, by omega, R2, K2⟩
      case round =>
        clear bld0 R2 K2 hsz hq
        obtain ⟨j, q', zs, hj, rfl, rfl, bld, hzs, hq, R, K⟩ := hrel
        have HZS := Lib.hid hzs; have hzs4 : zs.length ≤ 4 := (by omega); clear hzs
        obtain ⟨ao, co, eo, _, rowso, _⟩ := (OT.out.keep K hr).rows
        cases eo
        obtain ⟨tb, off, ak, ck, rfl, hck, _, _, _⟩ := rowso k hlt
        clear rowso
        have hsz := K.size
        by_cases hjt : j < t[k].length
        · have hjz : (j : Int) < (t[k].length : Int) := by omega
          have BL := Lib.hid bld; clear bld
          go_wp2_with fail
          refine (pick_any r q' 3 _ R (by omega) (by omega)).mono ?_
          rintro e w6 ⟨y, hy0, hy1, rfl, R6, k6⟩
          have bld6 := BL.out.keep k6 hrB
          obtain ⟨z, hz2⟩ : ∃ z, decide (y < 1 + x1) = z := ⟨_, rfl⟩
          have bld1 := bld6.ext ((Ext.refl w6).alloc (.cells #[.bool z] 4))
          have hone : BRow (w6.alloc (.cells #[.bool z] 4)) (some ⟨w6.heap.size, 0, none⟩) [z] := one_row w6 z
          have hb : zs.length + [z].length ≤ 10000000 := by simp; omega
          have hs6 : w.heap.size ≤ w6.heap.size := Nat.le_trans hsz k6.size
          have hB : w.heap.size ≤ (w6.alloc (.cells #[.bool z] 4)).heap.size := by simp; omega
          have B1 := Lib.hid bld1; have HO := Lib.hid hone
          clear bld1 hone bld6
          go_wp2_with (at_builtin; refine wpList_rowB rfl (.tmp 30) (.tmp 35) rfl w.heap.size _ zs rfl B1.out.row _ _ [z] rfl (fun h => by cases h) HO.out hb hB ?_; intro v2 w2 hu hg _ hat)
          have bld2 := B1.out.more hg hu hat
          have R8 : Rd w2 r (q' + 1) := (R6.ext ((Ext.refl w6).alloc (.cells #[.bool z] 4))).grown hg (fun k' hk' => by have := (B1.out.lt hk').1; omega)
          have K8 : Keep r w w2 := ((K.trans k6).alloc (.cells #[.bool z] 4)).grownNew hg (fun k' hk' => (B1.out.lt hk').1)
          clear hu hg hat B1 HO
          go_wp2_with fail
          go_roundg (t[k].length - (j + 1))
          case measure => omega
          case rel => exact ⟨j + 1, q' + 1, _, by omega, rfl, by go_num, bld2, by simp [HZS.out], by omega, R8, K8⟩
        · have hjz : ¬ (j : Int) < (t[k].length : Int) := by omega
          have hjm : j = t[k].length := by omega
          have HJ := Lib.hid hjm; clear hjm
          obtain ⟨ar, cr, hvr, _⟩ := owns_cells bld.row
          subst hvr
          have bld1 := bld.ext ((Ext.refl wr).alloc (.cells #[.slice ar zs.length cr] 53))
          have hcell := one_cell wr (.slice ar zs.length cr) 53
          have hB : w.heap.size ≤ (wr.alloc (.cells #[.slice ar zs.length cr] 53)).heap.size := by simp; omega
          have B1 := Lib.hid bld1; have HC := Lib.hid hcell
          have hN2 : m.length ≤ 10000000 := by omega
          have R3 := R.ext ((Ext.refl wr).alloc (.cells #[.slice ar zs.length cr] 53))
          clear bld bld1 hcell
          go_wp2_with (at_builtin; refine wpList_pushB rfl (.tmp 37) (.tmp 39) rfl w.heap.size _ vs m rfl B1.out.outer wr.heap.size rfl _ rfl HC.out zs B1.out.row B1.out.ne B1.out.ap hN2 hB ?_; intro v' w2 own3 hg2 _)
          have R8 : Rd w2 r q' := R3.grown hg2 (fun k' hk' => by have := HA.out k' hk'; omega)
          have K8 : Keep r w w2 := (K.alloc (.cells #[.slice ar zs.length cr] 53)).grownNew hg2 HA.out
          have hm5 := small_app HM4.out (zs := zs) (by omega)
          have HM5 := Lib.hid hm5
          clear hg2 B1 HC hm5
          go_wp2_with fail
          go_roundg (t.length - (k + 1))
          case measure => omega
          case rel => exact ⟨k + 1, q', _, _, by omega, rfl, by go_num, own3, by simp [HMK.out], HM5.out, by omega, R8, K8⟩
    · have hz : ¬ (k : Int) < (t.length : Int) := by omega
      go_wp2_with fail
      refine (pick_any r q 30 _ R (by omega) (by omega)).mono ?_
      rintro e w6 ⟨y, hy0, hy1, rfl, R6, k6⟩
      have own6 := own.keep k6 hrB
      have K6 := K.trans k6
      obtain ⟨av, cv, hv, _, _⟩ := own6.rows
      subst hv
      by_cases y0 : y = 0
      · subst y0
        have x1' : Ext w6 (w6.alloc (.cells #[.bool true] 4)) := (Ext.refl w6).alloc _
        have x2' := x1'.alloc (.cells #[.slice (some ⟨w6.heap.size, 0, none⟩) 1 1] 53)
        have hs6 : w.heap.size ≤ w6.heap.size := K6.size
        have hrow : ((w6.alloc (.cells #[.bool true] 4)).alloc (.cells #[.slice (some ⟨w6.heap.size, 0, none⟩) 1 1] 53)).ownsRow w.heap.size 4 1 (.slice (some ⟨w6.heap.size, 0, none⟩) 1 1) [true].length ([true].map encB) :=
          owns_ext (World.ownsRow_lit (base := w.heap.size) (e := 4) (size := 1) w6 #[.bool true] 1 hs6 (by unfold maxLen; omega) (by simp)) ((Ext.refl _).alloc _)
        have ho := own6.ext x2'
        have hne : ∀ b, (Value.slice (some (⟨w6.heap.size, 0, none⟩ : Addr)) 1 1).ownBlock = some b → (Value.slice av m.length cv).ownBlock ≠ some b := fun b hb hh => by
          have := (own6.outer_lt hh).2; simp [Value.ownBlock] at hb; omega
        have hap : ∀ l (_ : l < vs.length), ∀ b, (Value.slice (some (⟨w6.heap.size, 0, none⟩ : Addr)) 1 1).ownBlock = some b → vs[l].ownBlock ≠ some b := fun l hl b hb hh => by
          have := (own6.inner_lt hl hh).2; simp [Value.ownBlock] at hb; omega
        have hcell : ((w6.alloc (.cells #[.bool true] 4)).alloc (.cells #[.slice (some ⟨w6.heap.size, 0, none⟩) 1 1] 53)).cell? ⟨w6.heap.size + 1, 0, none⟩ = some (.slice (some ⟨w6.heap.size, 0, none⟩) 1 1) := by simp [go_sem]
        have hN2 : m.length ≤ 10000000 := by omega
        have hB : w.heap.size ≤ ((w6.alloc (.cells #[.bool true] 4)).alloc (.cells #[.slice (some ⟨w6.heap.size, 0, none⟩) 1 1] 53)).heap.size := by simp; omega
        have hat : ∀ k', (Value.slice av m.length cv).ownBlock = some k' → w.heap.size ≤ k' := fun k' hk' => (own6.outer_lt hk').1
        have R3 := R6.ext x2'
        have HRW := Lib.hid hrow; have HO := Lib.hid ho; have NE := Lib.hid hne; have AP := Lib.hid hap; have HC := Lib.hid hcell; have HA := Lib.hid hat
        clear hrow ho hne hap hcell hat own6 own
        go_wp2_with (at_builtin; refine wpList_pushB rfl (.tmp 44) (.tmp 46) rfl w.heap.size _ vs m rfl HO.out (w6.heap.size + 1) rfl _ rfl HC.out [true] HRW.out NE.out AP.out hN2 hB ?_; intro v' w2 own3 hg2 _)
        have R8 : Rd w2 r (q + 1) := R3.grown hg2 (fun k' hk' => by have := HA.out k' hk'; omega)
        have K8 : Keep r w w2 := (K6.trans (Keep.of_ext x2')).grownNew hg2 HA.out
        go_ret
        exact ⟨_, _, _, rfl, own3, by simp; omega, small_app HM4.out (by simp), ⟨q + 1, by omega, R8⟩, K8⟩
      · have y0b : (y == 0) = false := by simpa using y0
        have HO := Lib.hid own6; clear own6 own
        go_wp2_with fail
        go_ret
        exact ⟨_, vs, m, rfl, HO.out, by omega, HM4.out, ⟨q + 1, by omega, R6⟩, K6⟩
end Go.Proofs.Ytelcdjbbcffliaa

/- A drawn table with a mask and a cell that is often hidden. -/
namespace Go.Proofs.Ytelcdjbbcffliaa
open Go.RowKit Go.DC
theorem results_tmp4 {fn : Func} {t u v x : Tmp} (h : fn.results = #[.tmp t, .tmp u, .tmp v, .tmp x]) (tmps : Array Value) (P : Program) (w : World) :
    (results fn tmps).run P w = .ok (.tuple #[tmps.getD t undef, tmps.getD u undef, tmps.getD v undef, tmps.getD x undef]) w := by
  simp [results, h]
theorem results_tmp5 {fn : Func} {t u v x y : Tmp} (h : fn.results = #[.tmp t, .tmp u, .tmp v, .tmp x, .tmp y]) (tmps : Array Value) (P : Program) (w : World) :
    (results fn tmps).run P w = .ok (.tuple #[tmps.getD t undef, tmps.getD u undef, tmps.getD v undef, tmps.getD x undef, tmps.getD y undef]) w := by
  simp [results, h]
/-- What is drawn. -/
def HidOut (r p : Nat) (w : World) (e : Ending) (w' : World) : Prop :=
  ∃ a1 c1 vs1 t a2 c2 vs2 mk i j, e = .returned (.tuple #[.slice a1 t.length c1, .slice a2 mk.length c2, .int .i64 i, .int .i64 j]) ∧ OwnI w' w.heap.size (.slice a1 t.length c1) vs1 t ∧ OwnB w' w.heap.size (.slice a2 mk.length c2) vs2 mk
    ∧ t.length ≤ 4 ∧ (∀ x ∈ t, x.length ≤ 4) ∧ mk.length ≤ 5 ∧ (∀ x ∈ mk, x.length ≤ 4) ∧ (0 ≤ i ∧ i ≤ 4) ∧ (-1 ≤ j ∧ j ≤ 4) ∧ (∃ p', p' ≤ p + 60 ∧ Rd w' r p') ∧ Keep r w w'
theorem small_set {mk : List (List Bool)} {k l : Nat} (hk : k < mk.length) (h : ∀ x ∈ mk, x.length ≤ 4) : ∀ x ∈ mk.set k (mk[k].set l true), x.length ≤ 4 := fun x hx => by
  rcases List.mem_or_eq_of_mem_set hx with h1 | h1
  · exact h x h1
  · rw [h1]; simpa using h _ (List.getElem_mem hk)
set_option maxRecDepth 10000 in
set_option maxHeartbeats 4000000 in
theorem l92Hidden_any (r p : Nat) (w : World) (h : Rd w r p) (hp : p ≤ 700000) :
    Calls Try.prog 40 #[.pointer (some ⟨r, 0, none⟩)] w (HidOut r p w) := by
  have hr := h.lt
  go_enter Try.func40, Try.ntmps40
  go_wp2_with fail
  refine (l92Table_any r p 7 _ h (by omega) (by omega) (by omega)).mono ?_
  rintro e w1 ⟨v1, vs1, t, rfl, o1, ht4, htr, ⟨p1, hp1, R1⟩, k1⟩
  have hr1 : r < w1.heap.size := R1.lt
  obtain ⟨a1, c1, hv, _⟩ := o1.rows
  subst hv
  have O1 := Lib.hid o1
  have HTR := Lib.hid htr
  clear h htr
  go_wp2_with fail
  refine (l92Mask_any r p1 w.heap.size _ _ vs1 t _ R1 (by omega) O1.out hr ht4 HTR.out).mono ?_
  rintro e w2 ⟨v2, vs2, mk, rfl, o2, hm5, hmr, ⟨p2, hp2, R2⟩, k2⟩
  obtain ⟨a2, c2, hv, _⟩ := o2.rows
  subst hv
  have O2 := Lib.hid o2
  have O12 := Lib.hid (O1.out.keep k2 hr)
  have HMR := Lib.hid hmr
  have K2 := k1.trans k2
  have hw1 : w.heap.size ≤ w1.heap.size := k1.size
  have hlt1 : ∀ b, (Value.slice a1 t.length c1).ownBlock = some b → b < w1.heap.size := fun b hb => (O1.out.outer_lt hb).2
  have hlt2 : ∀ k (hk : k < vs1.length) b, vs1[k].ownBlock = some b → b < w1.heap.size := fun k hk b hb => (O1.out.inner_lt hk hb).2
  have LT1 := Lib.hid hlt1; have LT2 := Lib.hid hlt2
  clear hmr k2 k1 o1 o2 R1 hlt1 hlt2
  go_upto_region 3 with fail
  go_cut [8] (fun s wx => ∃ (i : Int), s = .int .i64 i ∧ 0 ≤ i ∧ i ≤ 4 ∧ (1 ≤ t.length → i < t.length) ∧ Rd wx r (p2 + 1) ∧ Keep r w2 wx)
  case first =>
    by_cases hL : 1 < t.length
    · have hLz : (1 : Int) < (t.length : Int) := by omega
      go_wp2_with fail
      refine (pick_any r p2 t.length _ R2 (by omega) (by omega)).mono ?_
      rintro e w3 ⟨x, hx0, hx1, rfl, R3, k3⟩
      go_wp2_with fail
      go_meet
      exact ⟨x, rfl, hx0, by omega, fun _ => by omega, R3, k3⟩
    · have hLz : ¬ (1 : Int) < (t.length : Int) := by omega
      go_wp2_with fail
      refine (pick_any r p2 1 _ R2 (by omega) (by omega)).mono ?_
      rintro e w3 ⟨x, hx0, hx1, rfl, R3, k3⟩
      go_wp2_with fail
      go_meet
      exact ⟨x, rfl, hx0, by omega, fun _ => by omega, R3, k3⟩
  case rest =>
    obtain ⟨i, rfl, hi0, hi1, hi2, R3, k3⟩ := hcut
    go_wp2_with fail
    refine (pick_any r (p2 + 1) 3 _ R3 (by omega) (by omega)).mono ?_
    rintro e w4 ⟨j0, hj0, hj1, rfl, R4, k4⟩
    have k24 := k3.trans k4
    have hr2 : r < w2.heap.size := R2.lt
    obtain ⟨_, _, hv, _, rows4, _⟩ := (O12.out.keep k24 hr).rows
    cases hv
    have RW4 := Lib.hid rows4
    clear rows4 R3 k3 k4 R2
    go_wp2_with fail
    refine (sTableValid_any _ _ t _ RW4.out (by omega)).mono ?_
    rintro e w5 ⟨rfl, e5⟩
    have R5 := R4.ext e5
    have k25 := k24.trans (Keep.of_ext e5)
    have RW5 := Lib.hid (RW4.out.ext e5)
    clear R4 k24 e5 RW4
    go_upto_if 23 with fail
    go_cut [9] (fun s wx => ∃ (j : Int) (q : Nat), s = .int .i64 j ∧ 0 ≤ j ∧ j ≤ 4 ∧ (tabOk t = true → j < wide t) ∧ q ≤ p2 + 3 ∧ Rd wx r q ∧ Keep r w2 wx)
    case first =>
      cases o1 : tabOk t with
      | false =>
        have HO := Lib.hid o1; clear o1
        go_wp2_with fail
        go_meet
        exact ⟨j0, p2 + 2, rfl, hj0, by omega, (fun h => by rw [HO.out] at h; cases h), by omega, R5, k25⟩
      | true =>
        obtain ⟨_, h1, _, m1, m4, _⟩ := tabOk_rect o1
        have HO := Lib.hid o1; clear o1
        obtain ⟨b0, off0, a0, c0, e0, hc0, _, _, _⟩ := RW5.out 0 (by omega)
        subst e0
        rw [← wide_eq (by omega)] at hc0
        simp only [Nat.add_zero] at hc0
        have h0z : (0 : Int) < (t.length : Int) := by omega
        go_wp2_with fail
        refine (pick_any r (p2 + 1 + 1) (wide t) _ R5 (by omega) (by omega)).mono ?_
        rintro e w6 ⟨j1, hj0', hj1', rfl, R6, k6⟩
        go_wp2_with fail
        go_meet
        exact ⟨j1, p2 + 3, rfl, hj0', by omega, fun _ => by omega, by omega, R6, k25.trans k6⟩
    case rest =>
      clear R5 k25 RW5 hj0 hj1
      obtain ⟨j, q, rfl, hjj0, hjj1, hjw, hq, R6, k26⟩ := hcut
      obtain ⟨_, _, hv, _, rows1, _⟩ := (O12.out.keep k26 hr).rows
      cases hv
      obtain ⟨_, _, hv, _, rows2, _⟩ := (O2.out.keep k26 (by omega)).rows
      cases hv
      have RW1 := Lib.hid rows1; have RW2 := Lib.hid rows2; have JW := Lib.hid hjw
      clear rows1 rows2 hjw
      go_upto_region 7 with fail
      go_cut [37] (fun s wx => ∃ (b : Bool) (q' : Nat), s = .bool b ∧ Hid (b = true → maskOk t mk = true) ∧ q' ≤ p2 + 4 ∧ Rd wx r q' ∧ Keep r w2 wx)
      case first =>
        go_wp2_with fail
        refine (sMaskValid_any _ _ _ _ t mk _ RW1.out RW2.out (by omega) (by omega)).mono ?_
        rintro e w7 ⟨rfl, e7⟩
        have R7 := R6.ext e7
        have k27 := k26.trans (Keep.of_ext e7)
        clear R6 k26 e7 RW1 RW2
        cases o2 : maskOk t mk with
        | false =>
          have HO := Lib.hid o2; clear o2
          go_wp2_with fail
          go_meet
          exact ⟨false, q, rfl, (fun h => by cases h), by omega, R7, k27⟩
        | true =>
          have HO := Lib.hid o2; clear o2
          go_wp2_with fail
          refine (pick_any r q 3 _ R7 (by omega) (by omega)).mono ?_
          rintro e w8 ⟨y, hy0, hy1, rfl, R8, k8⟩
          go_wp2_with fail
          go_meet
          exact ⟨decide (0 < y), q + 1, rfl, (fun _ => HO.out), by omega, R8, k27.trans k8⟩
      case rest =>
        obtain ⟨b, q', rfl, hb, hq', R7, k27⟩ := hcut
        have O1W := Lib.hid (O12.out.keep k27 hr)
        have O2W := Lib.hid (O2.out.keep k27 (by omega))
        have K7 := K2.trans k27
        have KK := Lib.hid K7
        clear R6 k26 RW1 RW2 K7
        go_upto_if 37 with fail
        go_cut [] (fun wx => ∃ (vs : List Value) (m : List (List Bool)), OwnI wx w.heap.size (.slice a1 t.length c1) vs1 t ∧ OwnB wx w1.heap.size (.slice a2 mk.length c2) vs m ∧ m.length = mk.length ∧ Hid (∀ x ∈ m, x.length ≤ 4) ∧ Rd wx r q' ∧ Keep r w wx)
        case first =>
          cases b with
          | false =>
            clear hb
            go_wp2_with fail
            go_meet
            exact ⟨vs2, mk, O1W.out, O2W.out, rfl, HMR.out, R7, KK.out⟩
          | true =>
            have hok := hb.out rfl
            obtain ⟨h1, _, m1, _⟩ := maskOk_lens hok
            obtain ⟨hokt, hrm⟩ := maskOk_rect hok
            have hiL := hi2 h1
            have hjL := JW.out hokt
            obtain ⟨k, rfl⟩ := Int.eq_ofNat_of_zero_le hi0
            obtain ⟨l, rfl⟩ := Int.eq_ofNat_of_zero_le hjj0
            have hkm : k < mk.length := by rw [hrm.1]; omega
            have hlm : l < mk[k].length := by rw [hrm.2 k hkm]; omega
            obtain ⟨o, co', g, ck, ev, ho, co, hg, hgo, hvs, cg, fg, fo⟩ := O2W.out.at hkm hlm
            cases ev
            have hset := O2W.out.set (j := l) hkm hvs true
            have hrl := hrm.2 k hkm
            rw [hrl] at co
            have HSET := Lib.hid hset
            have SS := Lib.hid (small_set (l := l) hkm HMR.out)
            have hkz : (k : Int) < (mk.length : Int) := by omega
            have hlz : (l : Int) < (wide t : Int) := by omega
            unfold encB at cg HSET
            have O1X := Lib.hid (O1W.out.grown (grown_setCell wc ⟨g, l, none⟩ (.bool true)) (by
              cases hv : (Value.slice a1 t.length c1).ownBlock with
              | none => exact .inl rfl
              | some b => exact .inr (fun e => by have h1 := LT1.out b hv; have h2 : b = g := Option.some.inj e; omega)) (fun k' hk' => by
              cases hv : vs1[k'].ownBlock with
              | none => exact .inl rfl
              | some b => exact .inr (fun e => by have h1 := LT2.out k' hk' b hv; have h2 : b = g := Option.some.inj e; omega)))
            have R8 := R7.setOther ⟨g, l, none⟩ (by show r < g; omega) (.bool true)
            have K8 := Lib.hid (KK.out.setNew (p := ⟨g, l, none⟩) (by show w.heap.size ≤ g; omega) (.bool true))
            clear hb hok hokt hrm hset hvs hiL hjL hrl
            go_wp2_with fail
            go_meet
            exact ⟨vs2, _, O1X.out, HSET.out, by simp, SS.out, R8, K8.out⟩
        case rest =>
          clear R7 k27 O1W O2W KK hb
          obtain ⟨vs, m, oa, ob, hml, hms, R8, K8⟩ := hcut
          have OA := Lib.hid oa; have OB := Lib.hid ob; have HML := Lib.hid hml
          have hm5 : m.length ≤ 5 := by omega
          rw [← hml] at OB
          clear oa ob hml
          rw [← HML.out]
          go_wp2_with fail
          refine (pick_any r q' 24 _ R8 (by omega) (by omega)).mono ?_
          rintro e w9 ⟨y, hy0, hy1, rfl, R9, k9⟩
          by_cases hy : y = 0
          · subst hy
            have R10 := R9.ext ((Ext.refl w9).alloc (.cells #[.int .i64 (-1), .int .i64 4] 3))
            have q0 : (w9.alloc (.cells #[.int .i64 (-1), .int .i64 4] 3)).cell? ⟨w9.heap.size, 0, none⟩ = some (.int .i64 (-1)) := by simp [go_sem]
            have q1 : (w9.alloc (.cells #[.int .i64 (-1), .int .i64 4] 3)).cell? ⟨w9.heap.size, 1, none⟩ = some (.int .i64 4) := by simp [go_sem]
            have k10 := k9.alloc (.cells #[.int .i64 (-1), .int .i64 4] 3)
            have hr9 : r < w9.heap.size := R9.lt
            go_wp2_with fail
            refine (pick_any r (q' + 1) 2 _ R10 (by omega) (by omega)).mono ?_
            rintro e w11 ⟨z, hz0, hz1, rfl, R11, k11⟩
            have q0' := k11.cell (p := ⟨w9.heap.size, 0, none⟩) (Nat.ne_of_gt hr9) q0
            have q1' := k11.cell (p := ⟨w9.heap.size, 1, none⟩) (Nat.ne_of_gt hr9) q1
            have k12 := k10.trans k11
            obtain rfl | rfl : z = 0 ∨ z = 1 := by omega
            all_goals
              clear q0 q1 k10 R10
              go_wp2_with fail
              refine bodyPost_ret (results_tmp4 rfl _ _ _) rfl ?_
              exact ⟨a1, c1, vs1, t, a2, c2, vs, m, i, _, rfl, OA.out.keep k12 hr, (OB.out.keep k12 (by omega)).base hw1, ht4, HTR.out, hm5, hms.out, ⟨hi0, hi1⟩, by omega, ⟨q' + 2, by omega, R11⟩, K8.trans k12⟩
          · have hyb : (y == 0) = false := by simpa using hy
            go_wp2_with fail
            refine bodyPost_ret (results_tmp4 rfl _ _ _) rfl ?_
            exact ⟨a1, c1, vs1, t, a2, c2, vs, m, i, j, rfl, OA.out.keep k9 hr, (OB.out.keep k9 (by omega)).base hw1, ht4, HTR.out, hm5, hms.out, ⟨hi0, hi1⟩, by omega, ⟨q' + 1, by omega, R9⟩, K8.trans k9⟩
end Go.Proofs.Ytelcdjbbcffliaa

/- Draws of tables, masks and cells. -/
namespace Go.Proofs.Ytelcdjbbcffliaa
open Go.RowKit Go.DC
/-- A table, a mask and a cell. -/
def DrewTMC (w : World) (e : Ending) (w' : World) : Prop :=
  ∃ a1 c1 t a2 c2 mk i j, e = .returned (.tuple #[.slice a1 t.length c1, .slice a2 mk.length c2, .int .i64 i, .int .i64 j]) ∧ IRows w' a1 t ∧ BRows w' a2 mk ∧ t.length ≤ 4 ∧ mk.length ≤ 5 ∧ (0 ≤ i ∧ i ≤ 4) ∧ (-1 ≤ j ∧ j ≤ 4) ∧ Ext w w'
/-- A table and a mask. -/
def DrewTM2 (w : World) (e : Ending) (w' : World) : Prop :=
  ∃ a1 c1 t a2 c2 mk, e = .returned (.tuple #[.slice a1 t.length c1, .slice a2 mk.length c2]) ∧ IRows w' a1 t ∧ BRows w' a2 mk ∧ t.length ≤ 4 ∧ mk.length ≤ 5 ∧ Ext w w'
theorem own_read {α : Type} {enc : α → Value} {te ts : TypeId} {w : World} {B : Nat} {a : Option Addr} {c : Nat} {vs : List Value} {t : List (List α)} (h : OwnT enc te ts w B (.slice a t.length c) vs t) : TRows enc w a t := by
  obtain ⟨_, _, hv, _, r, _⟩ := h.rows
  cases hv
  exact r
set_option maxHeartbeats 1000000 in
theorem DrawBoundHigh_any (a : Option Addr) (c : Nat) (zs : List Int) (w : World) (hb : Bytes w a zs) (hm : zs.length ≤ 9223372036854775807) (hcap : zs.length ≤ c) :
    Calls Try.prog 15 #[.slice a zs.length c] w (DrewTMC w) := by
  go_enter Try.func15, Try.ntmps15
  go_wp2_with fail
  refine (l6Open_any a c zs _ hb hm hcap).mono ?_
  rintro e w1 ⟨r, hr, rfl, R1, e1⟩
  go_wp2_with fail
  refine (l92Hidden_any r 0 _ R1 (by omega)).mono ?_
  rintro e w2 ⟨a1, c1, vs1, t, a2, c2, vs2, mk, i, j, rfl, o1, o2, ht, _, hm, _, hi, hj, _, K⟩
  go_wp2_with fail
  refine bodyPost_ret (results_tmp4 rfl _ _ _) rfl ?_
  exact ⟨a1, c1, t, a2, c2, mk, i, j, rfl, own_read o1, own_read o2, ht, hm, hi, hj, K.ext e1 hr⟩
set_option maxHeartbeats 1000000 in
theorem DrawBoundLow_any (a : Option Addr) (c : Nat) (zs : List Int) (w : World) (hb : Bytes w a zs) (hm : zs.length ≤ 9223372036854775807) (hcap : zs.length ≤ c) :
    Calls Try.prog 36 #[.slice a zs.length c] w (DrewTMC w) := by
  go_enter Try.func36, Try.ntmps36
  go_wp2_with fail
  refine (l6Open_any a c zs _ hb hm hcap).mono ?_
  rintro e w1 ⟨r, hr, rfl, R1, e1⟩
  go_wp2_with fail
  refine (l92Hidden_any r 0 _ R1 (by omega)).mono ?_
  rintro e w2 ⟨a1, c1, vs1, t, a2, c2, vs2, mk, i, j, rfl, o1, o2, ht, _, hm, _, hi, hj, _, K⟩
  go_wp2_with fail
  refine bodyPost_ret (results_tmp4 rfl _ _ _) rfl ?_
  exact ⟨a1, c1, t, a2, c2, mk, i, j, rfl, own_read o1, own_read o2, ht, hm, hi, hj, K.ext e1 hr⟩
end Go.Proofs.Ytelcdjbbcffliaa
