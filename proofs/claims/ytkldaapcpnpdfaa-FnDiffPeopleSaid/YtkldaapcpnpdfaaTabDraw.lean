/- The reader of a code of bytes: some number below a bound, its place one further. -/
import Derived.Test.YtkldaapcpnpdfaaRows
import Derived.Test.YtkldaapcpnpdfaaOwn
import Derived.Test.YtkldaapcpnpdfaaTabEqI
import Derived.Test.YtkldaapcpnpdfaaTabEqB
import Derived.Test.YtkldaapcpnpdfaaShiftFill
/- The reader of a code of bytes: some number below a bound, its place one further. -/
namespace Go.Proofs.Ytkldaapcpnpdfaa
open Go.RowKit Go.DC
/-- Block r is a reader that has read p bytes. -/
structure Rd (w : World) (r : Nat) (p : Nat) : Prop where
  ex : ∃ (a : Option Addr) (c : Nat) (zs : List Int), w.cell? ⟨r, 0, none⟩ = some (.slice a zs.length c) ∧ zs.length ≤ 2000 ∧ Bytes w a zs ∧ (0 < zs.length → ∀ b, a = some b → b.block < r)
  at1 : w.cell? ⟨r, 1, none⟩ = some (.int .i64 p)
  fr : w.frozen? ⟨r, 1, none⟩ = false

theorem Rd.ext {w w' : World} {r p : Nat} (h : Rd w r p) (e : Ext w w') : Rd w' r p := by
  obtain ⟨⟨a, c, zs, h0, hl, hb, hn⟩, h1, hf⟩ := h
  exact ⟨⟨a, c, zs, e.cell h0, hl, hb.ext e, hn⟩, e.cell h1, (e.frozen h1).trans hf⟩

/-- A draw: a number below n, the reader one further, all else as it was. -/
def Pick (n : Int) (r p : Nat) (w : World) (e : Ending) (w' : World) : Prop :=
  ∃ x : Int, 0 ≤ x ∧ (x < n ∨ x = 0) ∧ e = .returned (.int .i64 x) ∧ Rd w' r (p + 1) ∧ Keep r w w'

theorem Rd.step {w : World} {r p : Nat} (h : Rd w r p) (v : Int) (hv : v = p + 1) : Rd (w.setCell ⟨r, 1, none⟩ (.int .i64 v)) r (p + 1) := by
  obtain ⟨⟨a, c, zs, h0, hl, hb, hn⟩, h1, hf⟩ := h
  refine ⟨⟨a, c, zs, ?_, hl, ⟨fun k hk => ?_, hb.2⟩, hn⟩, ?_, ?_⟩
  · rw [World.cell?_setCell_other _ _ _ _ (fun e => by simp at e)]; exact h0
  · obtain ⟨b, off, rfl, hc⟩ := hb.1 k hk
    exact ⟨b, off, rfl, by rw [World.cell?_setCell_other _ _ _ _ (fun e => absurd (hn (by omega) _ rfl) (by rw [(congrArg Addr.block e).symm]; exact Nat.lt_irrefl _))]; exact hc⟩
  · rw [hv]; exact World.cell?_setCell_same' _ _ _ (by rw [h1]; rfl)
  · rw [World.frozen?_setCell]; exact hf

theorem Rd.setOther {w : World} {r p : Nat} (h : Rd w r p) (q : Addr) (hq : r < q.block) (v : Value) : Rd (w.setCell q v) r p := by
  obtain ⟨⟨a, c, zs, h0, hl, hb, hn⟩, h1, hf⟩ := h
  refine ⟨⟨a, c, zs, ?_, hl, ⟨fun k hk => ?_, hb.2⟩, hn⟩, ?_, ?_⟩
  · rw [World.cell?_setCell_other _ _ _ _ (fun e => absurd hq (by rw [e]; exact Nat.lt_irrefl _))]; exact h0
  · obtain ⟨b, off, rfl, hc⟩ := hb.1 k hk
    have hbr : b < r := hn (by omega) _ rfl
    exact ⟨b, off, rfl, by rw [World.cell?_setCell_other _ _ _ _ (fun e => absurd hq (by rw [e]; show ¬ r < b; omega))]; exact hc⟩
  · rw [World.cell?_setCell_other _ _ _ _ (fun e => absurd hq (by rw [e]; exact Nat.lt_irrefl _))]; exact h1
  · rw [World.frozen?_setCell]; exact hf

theorem Rd.lt {w : World} {r p : Nat} (h : Rd w r p) : r < w.heap.size := World.block_lt_of_cell? _ _ h.at1
/-- What keeps all from r on and below. -/
theorem Rd.grown {w w' : World} {r p : Nat} {row : Option Nat} (h : Rd w r p) (g : w.grownBy w' row) (hr : ∀ k, row = some k → r < k) : Rd w' r p := by
  obtain ⟨⟨a, c, zs, h0, hl, hb, hn⟩, h1, hf⟩ := h
  have hne : ∀ k, k ≤ r → some k ≠ row := fun k hk e => by have := hr k e.symm; omega
  refine ⟨⟨a, c, zs, g.cell h0 (hne _ (Nat.le_refl _)), hl, ⟨fun k hk => ?_, hb.2⟩, hn⟩, g.cell h1 (hne _ (Nat.le_refl _)), ?_⟩
  · obtain ⟨b, off, rfl, hc⟩ := hb.1 k hk
    have hbr : b < r := hn (by omega) _ rfl
    exact ⟨b, off, rfl, g.cell hc (hne _ (by show b ≤ r; omega))⟩
  · rw [World.frozen?_of_block (w := w) (g.block r (World.block_lt_of_cell? _ _ h1) (hne _ (Nat.le_refl _)))]; exact hf

theorem Rd.drew {w : World} {r p : Nat} (h : Rd w r p) : Rd w.drew r p := h.ext ((Ext.refl w).drew)
theorem Rd.drewN {w : World} {r p : Nat} (h : Rd w r p) (n : Nat) : Rd (w.drewN n) r p := h.ext ((Ext.refl w).drewN n)

theorem xor_nonneg (a b : Int) (h1 : 0 ≤ a) (h2 : a < 1099511627776) (h3 : 0 ≤ b) (h4 : b < 1099511627776) : 0 ≤ bits .xor .i64 a b := by
  obtain ⟨A, rfl⟩ := Int.eq_ofNat_of_zero_le h1
  obtain ⟨B, rfl⟩ := Int.eq_ofNat_of_zero_le h3
  have hx : A ^^^ B < 2 ^ 40 := Nat.xor_lt_two_pow (by omega) (by omega)
  show 0 ≤ IntKind.i64.wrap ((BitVec.ofInt 64 (A : Int) ^^^ BitVec.ofInt 64 (B : Int)).toNat : Int)
  rw [BitVec.toNat_xor, ofInt_u64 A (by omega), ofInt_u64 B (by omega), IntWalk.i64_in _ (by omega)]
  omega

set_option maxHeartbeats 1000000 in
theorem pick_any (r p : Nat) (n : Int) (w : World) (h : Rd w r p) (hp : p ≤ 1000000) (hn : n ≤ 1000000) :
    Calls Try.prog 31 #[.pointer (some ⟨r, 0, none⟩), .int .i64 n] w (Pick n r p w) := by
  have HR := Lib.hid h
  obtain ⟨⟨a, c, zs, h0, hl, hb, hne⟩, h1, hf⟩ := h
  have HB := Lib.hid hb; clear hb
  have HN := Lib.hid hne; clear hne
  by_cases hlow : n < 1
  · go_enter Try.func31, Try.ntmps31
    go_wp2
    go_ret
    exact ⟨0, by omega, by omega, rfl, HR.out.step _ rfl, (Keep.refl r w).setCell (p := ⟨r, 1, none⟩) rfl _⟩
  · have hlow' : decide (n < 1) = false := by simpa using hlow
    by_cases hz : zs.length = 0
    · have hzz : ((zs.length : Int) == 0) = true := by simp [hz]
      have HZ := Lib.hid hz; clear hz
      go_enter Try.func31, Try.ntmps31
      go_wp2
      go_ret
      exact ⟨0, by omega, by omega, rfl, HR.out.step _ rfl, (Keep.refl r w).setCell (p := ⟨r, 1, none⟩) rfl _⟩
    · have hzz : ((zs.length : Int) == 0) = false := by simpa using hz
      by_cases hlt : p < zs.length
      · have hltz : (p : Int) < (zs.length : Int) := by omega
        obtain ⟨b, off, rfl, hc⟩ := HB.out.1 p hlt
        have hbr : b ≠ r := Nat.ne_of_lt (HN.out (by omega) _ rfl)
        have hc' : (w.setCell ⟨r, 1, none⟩ (.int .i64 ((p : Int) + 1))).cell? ⟨b, off + p, none⟩ = some (.int .u8 (zs.getD p 0)) := by
          rw [World.cell?_setCell_other _ _ _ _ (fun e => hbr (congrArg Addr.block e).symm)]; exact hc
        have hbd := HB.out.2 (zs.getD p 0) (by rw [List.getD_eq_getElem?_getD, List.getElem?_eq_getElem hlt]; simp)
        obtain ⟨z, hzv⟩ : ∃ z, zs.getD p 0 = z := ⟨_, rfl⟩
        rw [hzv] at hc' hbd
        clear hzv hc
        obtain ⟨hz0, hz1⟩ := hbd
        have hm0 := Int.emod_nonneg z (show n ≠ 0 by omega)
        have hm1 := Int.emod_lt_of_pos z (show 0 < n by omega)
        go_enter Try.func31, Try.ntmps31
        go_wp2
        go_ret
        exact ⟨z % n, hm0, .inl hm1, rfl, HR.out.step _ rfl, (Keep.refl r w).setCell (p := ⟨r, 1, none⟩) rfl _⟩
      · have hltz : ¬ (p : Int) < (zs.length : Int) := by omega
        have hpos : 0 < zs.length := by omega
        have hm1 : p % zs.length < zs.length := Nat.mod_lt _ hpos
        have hm2 : (p * 7 + 3) % zs.length < zs.length := Nat.mod_lt _ hpos
        obtain ⟨b, off, rfl, hc⟩ := HB.out.1 (p % zs.length) hm1
        obtain ⟨b2, off2, hbb, hd⟩ := HB.out.1 ((p * 7 + 3) % zs.length) hm2
        cases hbb
        have hbr : b ≠ r := Nat.ne_of_lt (HN.out (by omega) _ rfl)
        have hc' : (w.setCell ⟨r, 1, none⟩ (.int .i64 ((p : Int) + 1))).cell? ⟨b, off + (p % zs.length), none⟩ = some (.int .u8 (zs.getD (p % zs.length) 0)) := by
          rw [World.cell?_setCell_other _ _ _ _ (fun e => hbr (congrArg Addr.block e).symm)]; exact hc
        have hd' : (w.setCell ⟨r, 1, none⟩ (.int .i64 ((p : Int) + 1))).cell? ⟨b, off + ((p * 7 + 3) % zs.length), none⟩ = some (.int .u8 (zs.getD ((p * 7 + 3) % zs.length) 0)) := by
          rw [World.cell?_setCell_other _ _ _ _ (fun e => hbr (congrArg Addr.block e).symm)]; exact hd
        have hbd1 := HB.out.2 (zs.getD (p % zs.length) 0) (by rw [List.getD_eq_getElem?_getD, List.getElem?_eq_getElem hm1]; simp)
        have hbd2 := HB.out.2 (zs.getD ((p * 7 + 3) % zs.length) 0) (by rw [List.getD_eq_getElem?_getD, List.getElem?_eq_getElem hm2]; simp)
        obtain ⟨z1, hzv1⟩ : ∃ z, zs.getD (p % zs.length) 0 = z := ⟨_, rfl⟩
        rw [hzv1] at hc' hbd1
        obtain ⟨z2, hzv2⟩ : ∃ z, zs.getD ((p * 7 + 3) % zs.length) 0 = z := ⟨_, rfl⟩
        rw [hzv2] at hd' hbd2
        clear hzv1 hzv2 hc hd
        obtain ⟨hz10, hz11⟩ := hbd1
        obtain ⟨hz20, hz21⟩ := hbd2
        have t1 : (p : Int).tmod (zs.length : Int) = ((p % zs.length : Nat) : Int) := by rw [Int.ofNat_tmod]
        have t2 : ((p : Int) * 7 + 3).tmod (zs.length : Int) = (((p * 7 + 3) % zs.length : Nat) : Int) := by
          rw [show ((p : Int) * 7 + 3) = ((p * 7 + 3 : Nat) : Int) by omega, Int.ofNat_tmod]
        have t3 : (p : Int).tdiv (zs.length : Int) = ((p / zs.length : Nat) : Int) := by rw [Int.ofNat_tdiv]
        have hq : p / zs.length ≤ p := Nat.div_le_self _ _
        obtain ⟨u, hu⟩ : ∃ u, p % zs.length = u := ⟨_, rfl⟩
        obtain ⟨v, hv⟩ : ∃ v, (p * 7 + 3) % zs.length = v := ⟨_, rfl⟩
        obtain ⟨q, hqv⟩ : ∃ q, p / zs.length = q := ⟨_, rfl⟩
        rw [hu] at t1 hm1 hc'
        rw [hv] at t2 hm2 hd'
        rw [hqv] at t3 hq
        clear hu hv hqv
        have hm1z : (u : Int) < (zs.length : Int) := by omega
        have hm2z : (v : Int) < (zs.length : Int) := by omega
        go_enter Try.func31, Try.ntmps31
        go_wp2
        go_quiet (fail)
        go_wp2
        go_ret
        have hx := xor_nonneg (z1 * 131 + z2 * 1117 + ↑p * 29 + ↑q * 53) ((z1 * 131 + z2 * 1117 + ↑p * 29 + ↑q * 53) / 64) (by omega) (by omega) (by omega) (by omega)
        refine ⟨_, Int.tmod_nonneg n hx, .inl (Int.tmod_lt_of_pos _ (by omega)), rfl, (HR.out.step _ rfl).drewN _, ((Keep.refl r w).setCell (p := ⟨r, 1, none⟩) rfl _).drewN _⟩

/-- A new reader. -/
def NewRd (w : World) (e : Ending) (w' : World) : Prop := ∃ r : Nat, w.heap.size ≤ r ∧ e = .returned (.pointer (some ⟨r, 0, none⟩)) ∧ Rd w' r 0 ∧ Ext w w'

theorem Bytes.take {w : World} {a : Option Addr} {zs : List Int} (h : Bytes w a zs) (n : Nat) (hn : n ≤ zs.length) : Bytes w a (zs.take n) := by
  refine ⟨fun k hk => ?_, fun z hz => h.2 z (List.mem_of_mem_take hz)⟩
  have hk' : k < n := by simpa [List.length_take, Nat.min_eq_left hn] using hk
  obtain ⟨b, off, ha, hc⟩ := h.1 k (by omega)
  refine ⟨b, off, ha, hc.trans ?_⟩
  simp only [List.getD_eq_getElem?_getD, List.getElem?_take]
  rw [if_pos hk']

theorem Bytes.below {w : World} {a : Option Addr} {zs : List Int} (h : Bytes w a zs) (hz : 0 < zs.length) : ∃ x, a = some x ∧ x.block < w.heap.size := by
  obtain ⟨b, off, ha, hc⟩ := h.1 0 hz
  exact ⟨_, ha, World.block_lt_of_cell? _ _ hc⟩

theorem rd_new {w : World} {a : Option Addr} {zs : List Int} (c : Nat) (t : TypeId) (h : Bytes w a zs) (hl : zs.length ≤ 2000) :
    Rd (w.alloc (.cells #[.slice a zs.length c, .int .i64 0] t)) w.heap.size 0 := by
  refine ⟨⟨a, c, zs, by simp [go_sem], hl, h.ext ((Ext.refl _).alloc _), fun hz b hb => ?_⟩, by simp [go_sem], by simp [go_sem]⟩
  subst hb
  obtain ⟨x, h1, h2⟩ := Bytes.below h hz
  cases h1; exact h2

set_option maxHeartbeats 1000000 in
theorem l6Open_any (a : Option Addr) (c : Nat) (zs : List Int) (w : World) (hb : Bytes w a zs) (hm : zs.length ≤ 9223372036854775807) (hcap : zs.length ≤ c) :
    Calls Try.prog 29 #[.slice a zs.length c] w (NewRd w) := by
  have HB := Lib.hid hb; clear hb
  by_cases hl : 2000 < zs.length
  · have hlz : (2000 : Int) < (zs.length : Int) := by omega
    have hcz : (2000 : Int) ≤ (c : Int) := by omega
    have hcn : 2000 ≤ c := by omega
    go_enter Try.func29, Try.ntmps29
    go_wp2
    go_ret
    have hlen : (zs.take 2000).length = 2000 := by rw [List.length_take]; omega
    have h := rd_new c 66 (Bytes.take HB.out 2000 (by omega)) (by omega)
    rw [hlen] at h
    exact ⟨w.heap.size, Nat.le_refl _, rfl, h, (Ext.refl _).alloc _⟩
  · have hlz : ¬ (2000 : Int) < (zs.length : Int) := by omega
    go_enter Try.func29, Try.ntmps29
    go_wp2
    go_ret
    exact ⟨w.heap.size, Nat.le_refl _, rfl, rd_new c 66 HB.out (by omega), (Ext.refl _).alloc _⟩
end Go.Proofs.Ytkldaapcpnpdfaa

/- Drawn tables and masks. -/
namespace Go.Proofs.Ytkldaapcpnpdfaa
open Go.RowKit Go.DC
set_option maxHeartbeats 1000000 in
theorem l11Blank_any (h m : Nat) (w : World) (hh : h ≤ 8) (hm : m ≤ 8) :
    Calls Try.prog 39 #[.int .i64 h, .int .i64 m] w (NewTab encI 3 55 (List.replicate h (List.replicate m 0)) w) := by
  have hmk := run_make_row' (P := Try.prog) 55 3 (.int .i64 0) 8 Try.underlying55 Try.dcElemI rfl .i64 .i64 m (by omega) (by omega)
  go_enter Try.func39, Try.ntmps39
  go_wp2_with fail
  go_loopg [5, 6] h (fun g v i wr => ∃ (k : Nat) (vs : List Value), k ≤ h ∧ g = h - k ∧ i = .int .i64 k ∧ OwnI wr w.heap.size v vs (List.replicate k (List.replicate m 0)) ∧ Ext w wr)
  case atStart => exact ⟨0, [], Nat.zero_le _, rfl, rfl, by simpa using ownT_empty (enc := encI) (te := 3) (ts := 55) w (Nat.le_refl _), (Ext.refl _).alloc _⟩
  case round =>
    obtain ⟨k, vs, hk, rfl, rfl, own, hext⟩ := hrel
    by_cases hlt : k < h
    · have hz : (k : Int) < (h : Int) := by omega
      have hsz := hext.size
      obtain ⟨av, cv, hv, _, _⟩ := own.rows
      rw [List.length_replicate] at hv
      subst hv
      have x1 := ((Ext.refl wr).alloc (.cells (madeCells #[.int .i64 0] m) 3))
      have x2 := x1.alloc (.cells #[.slice (some ⟨wr.heap.size, 0, none⟩) m m] 55)
      have own2 := own.ext x2
      have hu2 : ((wr.alloc (.cells (madeCells #[.int .i64 0] m) 3)).alloc (.cells #[.slice (some ⟨wr.heap.size, 0, none⟩) m m] 55)).ownsRow w.heap.size 3 1 (.slice (some ⟨wr.heap.size, 0, none⟩) m m) (List.replicate m (0 : Int)).length ((List.replicate m (0 : Int)).map encI) :=
        owns_ext (by
          have := World.ownsRow_lit (base := w.heap.size) (e := 3) (size := 1) wr (madeCells #[.int .i64 0] m) m hsz (by unfold maxLen; omega) (by simp [size_madeCells])
          rw [toList_madeCells_one] at this
          simpa using this) ((Ext.refl _).alloc _)
      have hne : ∀ b, (Value.slice (some (⟨wr.heap.size, 0, none⟩ : Addr)) m m).ownBlock = some b → (Value.slice av k cv).ownBlock ≠ some b := fun b hb h => by
        have h2 := (own.outer_lt h).2
        simp [Value.ownBlock] at hb
        omega
      have hap : ∀ l (_ : l < vs.length), ∀ b, (Value.slice (some (⟨wr.heap.size, 0, none⟩ : Addr)) m m).ownBlock = some b → vs[l].ownBlock ≠ some b := fun l hl b hb h => by
        have h2 := (own.inner_lt hl h).2
        simp [Value.ownBlock] at hb
        omega
      have hcell : ((wr.alloc (.cells (madeCells #[.int .i64 0] m) 3)).alloc (.cells #[.slice (some ⟨wr.heap.size, 0, none⟩) m m] 55)).cell? ⟨wr.heap.size + 1, 0, none⟩ = some (.slice (some ⟨wr.heap.size, 0, none⟩) m m) := by simp [go_sem]
      have hB : w.heap.size ≤ ((wr.alloc (.cells (madeCells #[.int .i64 0] m) 3)).alloc (.cells #[.slice (some ⟨wr.heap.size, 0, none⟩) m m] 55)).heap.size := by simp; omega
      have hlt2 : (List.replicate k (List.replicate m (0 : Int))).length ≤ 10000000 := by simp; omega
      have hat : ∀ k', (Value.slice av k cv).ownBlock = some k' → w.heap.size ≤ k' := fun k' hk' => (own.outer_lt hk').1
      have O2 := Lib.hid own2; have U2 := Lib.hid hu2; have NE := Lib.hid hne; have AP := Lib.hid hap; have HC := Lib.hid hcell; have HA := Lib.hid hat
      clear own2 hu2 hne hap hcell hat own
      go_wp2_with (at_builtin; refine wpList_pushI rfl (.tmp 13) (.tmp 16) rfl w.heap.size _ vs (List.replicate k (List.replicate m 0)) rfl O2.out (wr.heap.size + 1) rfl _ rfl HC.out (List.replicate m 0) U2.out NE.out AP.out hlt2 hB ?_; intro v' w2 own3 hg2 _)
      have hext2 : Ext w w2 := (hext.trans x2).grownNew hg2 HA.out
      rw [show List.replicate k (List.replicate m (0 : Int)) ++ [List.replicate m 0] = List.replicate (k + 1) (List.replicate m 0) by rw [List.replicate_succ']] at own3
      clear hg2 O2 U2 NE AP HC
      go_wp2_with fail
      go_roundg (h - (k + 1))
      case measure => omega
      case rel => exact ⟨k + 1, _, by omega, rfl, by go_num, own3, hext2⟩
    · have hz : ¬ (k : Int) < (h : Int) := by omega
      go_wp2_with fail
      go_ret
      have hkh : k = h := by omega
      subst hkh
      exact ⟨_, vs, rfl, own, hext⟩
end Go.Proofs.Ytkldaapcpnpdfaa

/- Drawn masks. -/
namespace Go.Proofs.Ytkldaapcpnpdfaa
open Go.RowKit Go.DC
end Go.Proofs.Ytkldaapcpnpdfaa

/- A drawn table with a mask and a cell that is often hidden. -/
namespace Go.Proofs.Ytkldaapcpnpdfaa
open Go.RowKit Go.DC
theorem results_tmp4 {fn : Func} {t u v x : Tmp} (h : fn.results = #[.tmp t, .tmp u, .tmp v, .tmp x]) (tmps : Array Value) (P : Program) (w : World) :
    (results fn tmps).run P w = .ok (.tuple #[tmps.getD t undef, tmps.getD u undef, tmps.getD v undef, tmps.getD x undef]) w := by
  simp [results, h]
theorem results_tmp5 {fn : Func} {t u v x y : Tmp} (h : fn.results = #[.tmp t, .tmp u, .tmp v, .tmp x, .tmp y]) (tmps : Array Value) (P : Program) (w : World) :
    (results fn tmps).run P w = .ok (.tuple #[tmps.getD t undef, tmps.getD u undef, tmps.getD v undef, tmps.getD x undef, tmps.getD y undef]) w := by
  simp [results, h]
/-- What is drawn. -/
def HidOut (r p : Nat) (w : World) (e : Ending) (w' : World) : Prop :=
  ∃ a1 c1 vs1 t a2 c2 vs2 mk i j, e = .returned (.tuple #[.slice a1 t.length c1, .slice a2 mk.length c2, .int .i64 i, .int .i64 j]) ∧ OwnI w' w.heap.size (.slice a1 t.length c1) vs1 t ∧ OwnB w' w.heap.size (.slice a2 mk.length c2) vs2 mk
    ∧ t.length ≤ 4 ∧ (∀ x ∈ t, x.length ≤ 4) ∧ mk.length ≤ 5 ∧ (∀ x ∈ mk, x.length ≤ 4) ∧ (0 ≤ i ∧ i ≤ 4) ∧ (-1 ≤ j ∧ j ≤ 4) ∧ (∃ p', p' ≤ p + 60 ∧ Rd w' r p') ∧ Keep r w w'
theorem small_set {mk : List (List Bool)} {k l : Nat} (hk : k < mk.length) (h : ∀ x ∈ mk, x.length ≤ 4) : ∀ x ∈ mk.set k (mk[k].set l true), x.length ≤ 4 := fun x hx => by
  rcases List.mem_or_eq_of_mem_set hx with h1 | h1
  · exact h x h1
  · rw [h1]; simpa using h _ (List.getElem_mem hk)
end Go.Proofs.Ytkldaapcpnpdfaa

/- Draws of tables, masks and cells. -/
namespace Go.Proofs.Ytkldaapcpnpdfaa
open Go.RowKit Go.DC
/-- A table, a mask and a cell. -/
def DrewTMC (w : World) (e : Ending) (w' : World) : Prop :=
  ∃ a1 c1 t a2 c2 mk i j, e = .returned (.tuple #[.slice a1 t.length c1, .slice a2 mk.length c2, .int .i64 i, .int .i64 j]) ∧ IRows w' a1 t ∧ BRows w' a2 mk ∧ t.length ≤ 4 ∧ mk.length ≤ 5 ∧ (0 ≤ i ∧ i ≤ 4) ∧ (-1 ≤ j ∧ j ≤ 4) ∧ Ext w w'
/-- A table and a mask. -/
def DrewTM2 (w : World) (e : Ending) (w' : World) : Prop :=
  ∃ a1 c1 t a2 c2 mk, e = .returned (.tuple #[.slice a1 t.length c1, .slice a2 mk.length c2]) ∧ IRows w' a1 t ∧ BRows w' a2 mk ∧ t.length ≤ 4 ∧ mk.length ≤ 5 ∧ Ext w w'
theorem own_read {α : Type} {enc : α → Value} {te ts : TypeId} {w : World} {B : Nat} {a : Option Addr} {c : Nat} {vs : List Value} {t : List (List α)} (h : OwnT enc te ts w B (.slice a t.length c) vs t) : TRows enc w a t := by
  obtain ⟨_, _, hv, _, r, _⟩ := h.rows
  cases hv
  exact r
end Go.Proofs.Ytkldaapcpnpdfaa
