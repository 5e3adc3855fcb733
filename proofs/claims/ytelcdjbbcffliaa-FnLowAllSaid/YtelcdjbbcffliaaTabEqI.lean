/- Comparisons and copies that the laws and the reference use. -/
import Derived.Test.YtelcdjbbcffliaaTabImpl
import Derived.Test.YtelcdjbbcffliaaCells
/- Comparisons and copies that the laws and the reference use. -/
namespace Go.Proofs.Ytelcdjbbcffliaa
open Go.RowKit Go.DC
theorem eq_upto {α : Type} [DecidableEq α] {xs ys : List α} (hl : xs.length = ys.length) (h : ∀ k (h1 : k < xs.length) (h2 : k < ys.length), xs[k] = ys[k]) : xs = ys := List.ext_getElem hl h
set_option maxRecDepth 10000 in
set_option maxHeartbeats 1000000 in
theorem eqIntS_any (a b : Option Addr) (c d : Nat) (xs ys : List Int) (w : World) (hx : IRow w a xs) (hy : IRow w b ys) (hm : xs.length ≤ 9223372036854775807) (_hm2 : ys.length ≤ 9223372036854775807) :
    Calls Try.prog 62 #[.slice a xs.length c, .slice b ys.length d] w (Ret (.bool (decide (xs = ys))) w) := by
  have HX := Lib.hid hx; clear hx
  have HY := Lib.hid hy; clear hy
  by_cases hl : xs.length = ys.length
  · have hlb : ((xs.length : Int) != (ys.length : Int)) = false := by rw [hl]; simp
    have HL := Lib.hid hl; clear hl
    go_enter Try.func62, Try.ntmps62
    go_wp2_with fail
    go_loopg [5] xs.length (fun g i wr => ∃ k : Nat, k ≤ xs.length ∧ g = xs.length - k ∧ i = .int .i64 k ∧ (∀ j (h1 : j < xs.length) (h2 : j < ys.length), j < k → xs[j] = ys[j]) ∧ Ext w wr)
    case atStart => exact ⟨0, Nat.zero_le _, rfl, rfl, fun j _ _ h => absurd h (by omega), Ext.refl _⟩
    case round =>
      obtain ⟨k, hk, rfl, rfl, hsame, hext⟩ := hrel
      have HS := Lib.hid hsame; clear hsame
      by_cases hlt : k < xs.length
      · have hz : (k : Int) < (xs.length : Int) := by omega
        have hlt2 : k < ys.length := by rw [← HL.out]; exact hlt
        have hz2 : (k : Int) < (ys.length : Int) := by omega
        obtain ⟨g1, o1, rfl, c1⟩ := (HX.out.ext hext) k hlt
        obtain ⟨g2, o2, rfl, c2⟩ := (HY.out.ext hext) k hlt2
        unfold encI at c1 c2
        by_cases he : xs[k] = ys[k]
        · have hb : (xs[k] != ys[k]) = false := by rw [he]; simp
          have HE := Lib.hid he; clear he
          go_wp2_with fail
          go_quiet (fail)
          go_wp2_with fail
          go_roundg (xs.length - (k + 1))
          case measure => omega
          case rel => exact ⟨k + 1, by omega, rfl, by go_num, fun j h1 h2 hj => by
            by_cases e : j = k
            · subst e; exact HE.out
            · exact HS.out j h1 h2 (by omega), hext.drewN _⟩
        · have hb : (xs[k] != ys[k]) = true := by rw [bne_iff_ne]; exact he
          go_wp2_with fail
          go_quiet (fail)
          go_wp2_with fail
          go_ret
          exact ⟨ret_bool (decide_eq_false (fun e => he (by subst e; rfl))).symm, hext.drewN _⟩
      · have hz : ¬ (k : Int) < (xs.length : Int) := by omega
        go_wp2_with fail
        go_ret
        exact ⟨ret_bool (decide_eq_true (eq_upto HL.out (fun j h1 h2 => HS.out j h1 h2 (by omega)))).symm, hext⟩
  · have hlb : ((xs.length : Int) != (ys.length : Int)) = true := by rw [bne_iff_ne]; omega
    have hlb2 : ¬ (xs.length : Int) = (ys.length : Int) := by omega
    have hne : ¬ xs = ys := fun e => hl (by rw [e])
    have HN := Lib.hid hne; clear hne hl
    go_enter Try.func62, Try.ntmps62
    go_wp2_with fail
    go_ret
    exact ⟨ret_bool (decide_eq_false HN.out).symm, Ext.refl _⟩
set_option maxRecDepth 10000 in
set_option maxHeartbeats 1000000 in
theorem sameInts_any (a b : Option Addr) (c d : Nat) (xs ys : List Int) (w : World) (hx : IRow w a xs) (hy : IRow w b ys) (hm : xs.length ≤ 9223372036854775807) (_hm2 : ys.length ≤ 9223372036854775807) :
    Calls Try.prog 65 #[.slice a xs.length c, .slice b ys.length d] w (Ret (.bool (decide (xs = ys))) w) := by
  have HX := Lib.hid hx; clear hx
  have HY := Lib.hid hy; clear hy
  by_cases hl : xs.length = ys.length
  · have hlb : ((xs.length : Int) != (ys.length : Int)) = false := by rw [hl]; simp
    have HL := Lib.hid hl; clear hl
    go_enter Try.func65, Try.ntmps65
    go_wp2_with fail
    go_loopg [5] xs.length (fun g i wr => ∃ k : Nat, k ≤ xs.length ∧ g = xs.length - k ∧ i = .int .i64 k ∧ (∀ j (h1 : j < xs.length) (h2 : j < ys.length), j < k → xs[j] = ys[j]) ∧ Ext w wr)
    case atStart => exact ⟨0, Nat.zero_le _, rfl, rfl, fun j _ _ h => absurd h (by omega), Ext.refl _⟩
    case round =>
      obtain ⟨k, hk, rfl, rfl, hsame, hext⟩ := hrel
      have HS := Lib.hid hsame; clear hsame
      by_cases hlt : k < xs.length
      · have hz : (k : Int) < (xs.length : Int) := by omega
        have hlt2 : k < ys.length := by rw [← HL.out]; exact hlt
        have hz2 : (k : Int) < (ys.length : Int) := by omega
        obtain ⟨g1, o1, rfl, c1⟩ := (HX.out.ext hext) k hlt
        obtain ⟨g2, o2, rfl, c2⟩ := (HY.out.ext hext) k hlt2
        unfold encI at c1 c2
        by_cases he : xs[k] = ys[k]
        · have hb : (xs[k] != ys[k]) = false := by rw [he]; simp
          have HE := Lib.hid he; clear he
          go_wp2_with fail
          go_quiet (fail)
          go_wp2_with fail
          go_roundg (xs.length - (k + 1))
          case measure => omega
          case rel => exact ⟨k + 1, by omega, rfl, by go_num, fun j h1 h2 hj => by
            by_cases e : j = k
            · subst e; exact HE.out
            · exact HS.out j h1 h2 (by omega), hext.drewN _⟩
        · have hb : (xs[k] != ys[k]) = true := by rw [bne_iff_ne]; exact he
          go_wp2_with fail
          go_quiet (fail)
          go_wp2_with fail
          go_ret
          exact ⟨ret_bool (decide_eq_false (fun e => he (by subst e; rfl))).symm, hext.drewN _⟩
      · have hz : ¬ (k : Int) < (xs.length : Int) := by omega
        go_wp2_with fail
        go_ret
        exact ⟨ret_bool (decide_eq_true (eq_upto HL.out (fun j h1 h2 => HS.out j h1 h2 (by omega)))).symm, hext⟩
  · have hlb : ((xs.length : Int) != (ys.length : Int)) = true := by rw [bne_iff_ne]; omega
    have hlb2 : ¬ (xs.length : Int) = (ys.length : Int) := by omega
    have hne : ¬ xs = ys := fun e => hl (by rw [e])
    have HN := Lib.hid hne; clear hne hl
    go_enter Try.func65, Try.ntmps65
    go_wp2_with fail
    go_ret
    exact ⟨ret_bool (decide_eq_false HN.out).symm, Ext.refl _⟩
set_option maxRecDepth 10000 in
set_option maxHeartbeats 1000000 in
theorem eqIntSS_any (a b : Option Addr) (c d : Nat) (xs ys : List (List Int)) (w : World) (hx : IRows w a xs) (hy : IRows w b ys) (hm : xs.length ≤ 9223372036854775807) (_hm2 : ys.length ≤ 9223372036854775807) (hr : ∀ r ∈ xs, r.length ≤ 9223372036854775807) (hr2 : ∀ r ∈ ys, r.length ≤ 9223372036854775807) :
    Calls Try.prog 33 #[.slice a xs.length c, .slice b ys.length d] w (Ret (.bool (decide (xs = ys))) w) := by
  have HX := Lib.hid hx; clear hx
  have HY := Lib.hid hy; clear hy
  have HR := Lib.hid hr; clear hr
  have HR2 := Lib.hid hr2; clear hr2
  by_cases hl : xs.length = ys.length
  · have hlb : ((xs.length : Int) != (ys.length : Int)) = false := by rw [hl]; simp
    have HL := Lib.hid hl; clear hl
    go_enter Try.func33, Try.ntmps33
    go_wp2_with fail
    go_loopg [5] xs.length (fun g i wr => ∃ k : Nat, k ≤ xs.length ∧ g = xs.length - k ∧ i = .int .i64 k ∧ (∀ j (h1 : j < xs.length) (h2 : j < ys.length), j < k → xs[j] = ys[j]) ∧ Ext w wr)
    case atStart => exact ⟨0, Nat.zero_le _, rfl, rfl, fun j _ _ h => absurd h (by omega), Ext.refl _⟩
    case round =>
      obtain ⟨k, hk, rfl, rfl, hsame, hext⟩ := hrel
      have HS := Lib.hid hsame; clear hsame
      by_cases hlt : k < xs.length
      · have hz : (k : Int) < (xs.length : Int) := by omega
        have hlt2 : k < ys.length := by rw [← HL.out]; exact hlt
        have hz2 : (k : Int) < (ys.length : Int) := by omega
        obtain ⟨g1, o1, ak, ck, rfl, c1, _, _, rk⟩ := (HX.out.ext hext) k hlt
        obtain ⟨g2, o2, bk, dk, rfl, c2, _, _, sk⟩ := (HY.out.ext hext) k hlt2
        have RK := Lib.hid rk; clear rk
        have SK := Lib.hid sk; clear sk
        go_wp2_with fail
        go_still_tail 8, (by kernel_rfl)
        change wpList _ _ _ _ _ wr.drew
        obtain ⟨w2, hw2⟩ : ∃ w2, wr.drew = w2 := ⟨_, rfl⟩
        have e2 : Ext wr w2 := hw2 ▸ (Ext.refl wr).drew
        rw [hw2]
        clear hw2
        go_wp2_with fail
        refine (eqIntS_any _ _ _ _ xs[k] ys[k] _ (RK.out.ext e2) (SK.out.ext e2) (HR.out _ (List.getElem_mem hlt)) (HR2.out _ (List.getElem_mem hlt2))).mono ?_
        rintro e w3 ⟨rfl, e3⟩
        have E3 := (hext.trans e2).trans e3
        by_cases he : xs[k] = ys[k]
        · have hb : decide (xs[k] = ys[k]) = true := by simpa using he
          rw [hb]
          have HE := Lib.hid he; clear he hb
          go_wp2_with fail
          go_roundg (xs.length - (k + 1))
          case measure => omega
          case rel => exact ⟨k + 1, by omega, rfl, by go_num, fun j h1 h2 hj => by
            by_cases e : j = k
            · subst e; exact HE.out
            · exact HS.out j h1 h2 (by omega), E3⟩
        · have hb : decide (xs[k] = ys[k]) = false := by simpa using he
          rw [hb]
          have HE := Lib.hid he; clear he hb
          go_wp2_with fail
          go_ret
          exact ⟨ret_bool (decide_eq_false (fun e => HE.out (by subst e; rfl))).symm, E3⟩
      · have hz : ¬ (k : Int) < (xs.length : Int) := by omega
        go_wp2_with fail
        go_ret
        exact ⟨ret_bool (decide_eq_true (eq_upto HL.out (fun j h1 h2 => HS.out j h1 h2 (by omega)))).symm, hext⟩
  · have hlb : ((xs.length : Int) != (ys.length : Int)) = true := by rw [bne_iff_ne]; omega
    have hlb2 : ¬ (xs.length : Int) = (ys.length : Int) := by omega
    have hne : ¬ xs = ys := fun e => hl (by rw [e])
    have HN := Lib.hid hne; clear hne hl
    go_enter Try.func33, Try.ntmps33
    go_wp2_with fail
    go_ret
    exact ⟨ret_bool (decide_eq_false HN.out).symm, Ext.refl _⟩
set_option maxRecDepth 10000 in
set_option maxHeartbeats 1000000 in
theorem sameRows_any (a b : Option Addr) (c d : Nat) (xs ys : List (List Int)) (w : World) (hx : IRows w a xs) (hy : IRows w b ys) (hm : xs.length ≤ 9223372036854775807) (_hm2 : ys.length ≤ 9223372036854775807) (hr : ∀ r ∈ xs, r.length ≤ 9223372036854775807) (hr2 : ∀ r ∈ ys, r.length ≤ 9223372036854775807) :
    Calls Try.prog 38 #[.slice a xs.length c, .slice b ys.length d] w (Ret (.bool (decide (xs = ys))) w) := by
  have HX := Lib.hid hx; clear hx
  have HY := Lib.hid hy; clear hy
  have HR := Lib.hid hr; clear hr
  have HR2 := Lib.hid hr2; clear hr2
  by_cases hl : xs.length = ys.length
  · have hlb : ((xs.length : Int) != (ys.length : Int)) = false := by rw [hl]; simp
    have HL := Lib.hid hl; clear hl
    go_enter Try.func38, Try.ntmps38
    go_wp2_with fail
    go_loopg [5] xs.length (fun g i wr => ∃ k : Nat, k ≤ xs.length ∧ g = xs.length - k ∧ i = .int .i64 k ∧ (∀ j (h1 : j < xs.length) (h2 : j < ys.length), j < k → xs[j] = ys[j]) ∧ Ext w wr)
    case atStart => exact ⟨0, Nat.zero_le _, rfl, rfl, fun j _ _ h => absurd h (by omega), Ext.refl _⟩
    case round =>
      obtain ⟨k, hk, rfl, rfl, hsame, hext⟩ := hrel
      have HS := Lib.hid hsame; clear hsame
      by_cases hlt : k < xs.length
      · have hz : (k : Int) < (xs.length : Int) := by omega
        have hlt2 : k < ys.length := by rw [← HL.out]; exact hlt
        have hz2 : (k : Int) < (ys.length : Int) := by omega
        obtain ⟨g1, o1, ak, ck, rfl, c1, _, _, rk⟩ := (HX.out.ext hext) k hlt
        obtain ⟨g2, o2, bk, dk, rfl, c2, _, _, sk⟩ := (HY.out.ext hext) k hlt2
        have RK := Lib.hid rk; clear rk
        have SK := Lib.hid sk; clear sk
        go_wp2_with fail
        go_still_tail 8, (by kernel_rfl)
        change wpList _ _ _ _ _ wr.drew
        obtain ⟨w2, hw2⟩ : ∃ w2, wr.drew = w2 := ⟨_, rfl⟩
        have e2 : Ext wr w2 := hw2 ▸ (Ext.refl wr).drew
        rw [hw2]
        clear hw2
        go_wp2_with fail
        refine (sameInts_any _ _ _ _ xs[k] ys[k] _ (RK.out.ext e2) (SK.out.ext e2) (HR.out _ (List.getElem_mem hlt)) (HR2.out _ (List.getElem_mem hlt2))).mono ?_
        rintro e w3 ⟨rfl, e3⟩
        have E3 := (hext.trans e2).trans e3
        by_cases he : xs[k] = ys[k]
        · have hb : decide (xs[k] = ys[k]) = true := by simpa using he
          rw [hb]
          have HE := Lib.hid he; clear he hb
          go_wp2_with fail
          go_roundg (xs.length - (k + 1))
          case measure => omega
          case rel => exact ⟨k + 1, by omega, rfl, by go_num, fun j h1 h2 hj => by
            by_cases e : j = k
            · subst e; exact HE.out
            · exact HS.out j h1 h2 (by omega), E3⟩
        · have hb : decide (xs[k] = ys[k]) = false := by simpa using he
          rw [hb]
          have HE := Lib.hid he; clear he hb
          go_wp2_with fail
          go_ret
          exact ⟨ret_bool (decide_eq_false (fun e => HE.out (by subst e; rfl))).symm, E3⟩
      · have hz : ¬ (k : Int) < (xs.length : Int) := by omega
        go_wp2_with fail
        go_ret
        exact ⟨ret_bool (decide_eq_true (eq_upto HL.out (fun j h1 h2 => HS.out j h1 h2 (by omega)))).symm, hext⟩
  · have hlb : ((xs.length : Int) != (ys.length : Int)) = true := by rw [bne_iff_ne]; omega
    have hlb2 : ¬ (xs.length : Int) = (ys.length : Int) := by omega
    have hne : ¬ xs = ys := fun e => hl (by rw [e])
    have HN := Lib.hid hne; clear hne hl
    go_enter Try.func38, Try.ntmps38
    go_wp2_with fail
    go_ret
    exact ⟨ret_bool (decide_eq_false HN.out).symm, Ext.refl _⟩
end Go.Proofs.Ytelcdjbbcffliaa

/- Copies that the reference and the laws make; sizes; marks. -/
namespace Go.Proofs.Ytelcdjbbcffliaa
open Go.RowKit Go.DC
theorem set_take1 {α : Type} {zs : List α} {k : Nat} {z : α} (h : k < zs.length) : (zs.take k ++ List.replicate (zs.length - k) z).set k zs[k] = zs.take (k + 1) ++ List.replicate (zs.length - (k + 1)) z := by
  apply List.ext_getElem
  · simp; omega
  · intro i h1 h2
    simp only [List.getElem_set, List.getElem_append, List.getElem_replicate, List.length_take, List.getElem_take]
    repeat' split
    all_goals first | rfl | omega | (rename_i h3 _; subst h3; rfl) | (rename_i h3; subst h3; rfl)
set_option maxRecDepth 10000 in
set_option maxHeartbeats 1000000 in
theorem l11Copy_any (a : Option Addr) (c : Nat) (t : List (List Int)) (w : World) (ht : IRows w a t) (hl : t.length ≤ 2000000) (hll : ∀ k (h : k < t.length), t[k].length ≤ 2000000) :
    Calls Try.prog 45 #[.slice a t.length c] w (NewTab encI 3 28 t w) := by
  have HT := Lib.hid ht; clear ht
  have HL := Lib.hid hll; clear hll
  go_enter Try.func45, Try.ntmps45
  go_wp2_with fail
  go_loopg [3, 4] t.length (fun g v i wr => ∃ (k : Nat) (vs : List Value), k ≤ t.length ∧ g = t.length - k ∧ i = .int .i64 k ∧ OwnI wr w.heap.size v vs (t.take k) ∧ Ext w wr)
  case atStart => exact ⟨0, [], Nat.zero_le _, rfl, rfl, by simpa using ownT_empty (enc := encI) (te := 3) (ts := 28) w (Nat.le_refl _), (Ext.refl _).alloc _⟩
  case round =>
    obtain ⟨k, vs, hk, rfl, rfl, own, hext⟩ := hrel
    by_cases hlt : k < t.length
    · have hz : (k : Int) < (t.length : Int) := by omega
      have hsz := hext.size
      obtain ⟨av, cv, hv, _, _⟩ := own.rows
      rw [List.length_take, Nat.min_eq_left hk] at hv
      subst hv
      obtain ⟨b, off, ak, ck, rfl, hck, hlk, hnk, hrk⟩ := (HT.out.ext hext) k hlt
      have R1 := Lib.hid (hrk.ext ((Ext.refl wr).alloc (.cells #[] 3))); clear hrk
      have HN := Lib.hid hnk; clear hnk
      have hck1 := ((Ext.refl wr).alloc (.cells #[] 3)).cell hck
      have O1 := Lib.hid (World.ownsRow_made (base := wr.heap.size) (e := 3) (size := 1) wr #[] 0 (Nat.le_refl _) (by decide) rfl)
      have hb : ([] : List Int).length + t[k].length ≤ 10000000 := by have := HL.out k hlt; simp; omega
      have hw : wr.heap.size ≤ (wr.alloc (.cells #[] 3)).heap.size := by simp
      have HO := Lib.hid own; clear own
      go_wp2_with (first
        | (at_builtin
           refine wpList_rowI rfl (.tmp 13) (.tmp 17) rfl wr.heap.size _ [] rfl O1.out _ _ t[k] rfl HN.out R1.out hb hw ?_
           intro u w1 hu hg1 _ _
           have hu0 : w1.ownsRow wr.heap.size 3 1 u t[k].length (t[k].map encI) := by simpa using hu
           have e1 : Ext wr w1 := ((Ext.refl wr).alloc (.cells #[] 3)).grownNew hg1 (fun k hk => by cases hk; exact Nat.le_refl _)
           clear hu hg1
           obtain ⟨au, cu, rfl, _⟩ := owns_cells hu0
           have hub := hu0.lt
           have own1 := HO.out.ext e1
           have own2 := own1.ext ((Ext.refl w1).alloc (.cells #[.slice au t[k].length cu] 28))
           have hu2 := owns_base (owns_ext hu0 ((Ext.refl w1).alloc (.cells #[.slice au t[k].length cu] 28))) hsz
           have hne : ∀ b, (Value.slice au t[k].length cu).ownBlock = some b → (Value.slice av k cv).ownBlock ≠ some b := fun b hb h => by
             have h1 := (hub b hb).1
             have h2 := (HO.out.outer_lt h).2
             omega
           have hap : ∀ l (_ : l < vs.length), ∀ b, (Value.slice au t[k].length cu).ownBlock = some b → vs[l].ownBlock ≠ some b := fun l hl b hb h => by
             have h1 := (hub b hb).1
             have h2 := (HO.out.inner_lt hl h).2
             omega
           have hcell : (w1.alloc (.cells #[.slice au t[k].length cu] 28)).cell? ⟨w1.heap.size, 0, none⟩ = some (.slice au t[k].length cu) := by simp [go_sem]
           have hB : w.heap.size ≤ (w1.alloc (.cells #[.slice au t[k].length cu] 28)).heap.size := by have := e1.size; simp; omega
           have hlt2 : (t.take k).length ≤ 10000000 := by simp; omega
           have O2 := Lib.hid own2; have U2 := Lib.hid hu2; have NE := Lib.hid hne; have AP := Lib.hid hap; have HC := Lib.hid hcell
           have hat : ∀ k', (Value.slice av k cv).ownBlock = some k' → w.heap.size ≤ k' := fun k' hk' => (HO.out.outer_lt hk').1
           have HA := Lib.hid hat
           clear own2 hu2 hne hap hcell hu0 hub own1 O1 R1 hat
          )
        | (at_builtin; refine wpList_pushI rfl (.tmp 12) (.tmp 19) rfl w.heap.size _ vs (t.take k) rfl O2.out w1.heap.size rfl _ rfl HC.out t[k] U2.out NE.out AP.out hlt2 hB ?_; intro v' w2 own3 hg2 _))
      have hext2 : Ext w w2 := ((hext.trans e1).alloc (.cells #[.slice au t[k].length cu] 28)).grownNew hg2 HA.out
      rw [← List.take_succ_eq_append_getElem hlt] at own3
      clear hg2 O2 U2 NE AP HC
      go_wp2_with fail
      go_roundg (t.length - (k + 1))
      case measure => omega
      case rel => exact ⟨k + 1, _, by omega, rfl, by go_num, own3, hext2⟩
    · have hz : ¬ (k : Int) < (t.length : Int) := by omega
      go_wp2_with fail
      go_ret
      have hkh : k = t.length := by omega
      subst hkh
      exact ⟨_, vs, rfl, by simpa using own, hext⟩
set_option maxRecDepth 10000 in
set_option maxHeartbeats 1000000 in
theorem copyRows_any (a : Option Addr) (c : Nat) (t : List (List Int)) (w : World) (ht : IRows w a t) (hl : t.length ≤ 2000000) (hll : ∀ k (h : k < t.length), t[k].length ≤ 2000000) :
    Calls Try.prog 20 #[.slice a t.length c] w (NewTab encI 3 28 t w) := by
  have HT := Lib.hid ht; clear ht
  have HL := Lib.hid hll; clear hll
  go_enter Try.func20, Try.ntmps20
  go_wp2_with fail
  go_loopg [3, 4] t.length (fun g v i wr => ∃ (k : Nat) (vs : List Value), k ≤ t.length ∧ g = t.length - k ∧ i = .int .i64 k ∧ OwnI wr w.heap.size v vs (t.take k) ∧ Ext w wr)
  case atStart => exact ⟨0, [], Nat.zero_le _, rfl, rfl, by simpa using ownT_empty (enc := encI) (te := 3) (ts := 28) w (Nat.le_refl _), (Ext.refl _).alloc _⟩
  case round =>
    obtain ⟨k, vs, hk, rfl, rfl, own, hext⟩ := hrel
    by_cases hlt : k < t.length
    · have hz : (k : Int) < (t.length : Int) := by omega
      have hsz := hext.size
      obtain ⟨av, cv, hv, _, _⟩ := own.rows
      rw [List.length_take, Nat.min_eq_left hk] at hv
      subst hv
      obtain ⟨b, off, ak, ck, rfl, hck, hlk, hnk, hrk⟩ := (HT.out.ext hext) k hlt
      have R1 := Lib.hid (hrk.ext ((Ext.refl wr).alloc (.cells #[] 3))); clear hrk
      have HN := Lib.hid hnk; clear hnk
      have hck1 := ((Ext.refl wr).alloc (.cells #[] 3)).cell hck
      have O1 := Lib.hid (World.ownsRow_made (base := wr.heap.size) (e := 3) (size := 1) wr #[] 0 (Nat.le_refl _) (by decide) rfl)
      have hb : ([] : List Int).length + t[k].length ≤ 10000000 := by have := HL.out k hlt; simp; omega
      have hw : wr.heap.size ≤ (wr.alloc (.cells #[] 3)).heap.size := by simp
      have HO := Lib.hid own; clear own
      go_wp2_with (first
        | (at_builtin
           refine wpList_rowI rfl (.tmp 13) (.tmp 17) rfl wr.heap.size _ [] rfl O1.out _ _ t[k] rfl HN.out R1.out hb hw ?_
           intro u w1 hu hg1 _ _
           have hu0 : w1.ownsRow wr.heap.size 3 1 u t[k].length (t[k].map encI) := by simpa using hu
           have e1 : Ext wr w1 := ((Ext.refl wr).alloc (.cells #[] 3)).grownNew hg1 (fun k hk => by cases hk; exact Nat.le_refl _)
           clear hu hg1
           obtain ⟨au, cu, rfl, _⟩ := owns_cells hu0
           have hub := hu0.lt
           have own1 := HO.out.ext e1
           have own2 := own1.ext ((Ext.refl w1).alloc (.cells #[.slice au t[k].length cu] 28))
           have hu2 := owns_base (owns_ext hu0 ((Ext.refl w1).alloc (.cells #[.slice au t[k].length cu] 28))) hsz
           have hne : ∀ b, (Value.slice au t[k].length cu).ownBlock = some b → (Value.slice av k cv).ownBlock ≠ some b := fun b hb h => by
             have h1 := (hub b hb).1
             have h2 := (HO.out.outer_lt h).2
             omega
           have hap : ∀ l (_ : l < vs.length), ∀ b, (Value.slice au t[k].length cu).ownBlock = some b → vs[l].ownBlock ≠ some b := fun l hl b hb h => by
             have h1 := (hub b hb).1
             have h2 := (HO.out.inner_lt hl h).2
             omega
           have hcell : (w1.alloc (.cells #[.slice au t[k].length cu] 28)).cell? ⟨w1.heap.size, 0, none⟩ = some (.slice au t[k].length cu) := by simp [go_sem]
           have hB : w.heap.size ≤ (w1.alloc (.cells #[.slice au t[k].length cu] 28)).heap.size := by have := e1.size; simp; omega
           have hlt2 : (t.take k).length ≤ 10000000 := by simp; omega
           have O2 := Lib.hid own2; have U2 := Lib.hid hu2; have NE := Lib.hid hne; have AP := Lib.hid hap; have HC := Lib.hid hcell
           have hat : ∀ k', (Value.slice av k cv).ownBlock = some k' → w.heap.size ≤ k' := fun k' hk' => (HO.out.outer_lt hk').1
           have HA := Lib.hid hat
           clear own2 hu2 hne hap hcell hu0 hub own1 O1 R1 hat
          )
        | (at_builtin; refine wpList_pushI rfl (.tmp 12) (.tmp 19) rfl w.heap.size _ vs (t.take k) rfl O2.out w1.heap.size rfl _ rfl HC.out t[k] U2.out NE.out AP.out hlt2 hB ?_; intro v' w2 own3 hg2 _))
      have hext2 : Ext w w2 := ((hext.trans e1).alloc (.cells #[.slice au t[k].length cu] 28)).grownNew hg2 HA.out
      rw [← List.take_succ_eq_append_getElem hlt] at own3
      clear hg2 O2 U2 NE AP HC
      go_wp2_with fail
      go_roundg (t.length - (k + 1))
      case measure => omega
      case rel => exact ⟨k + 1, _, by omega, rfl, by go_num, own3, hext2⟩
    · have hz : ¬ (k : Int) < (t.length : Int) := by omega
      go_wp2_with fail
      go_ret
      have hkh : k = t.length := by omega
      subst hkh
      exact ⟨_, vs, rfl, by simpa using own, hext⟩
set_option maxRecDepth 10000 in
set_option maxHeartbeats 1000000 in
theorem toIntS_any (a : Option Addr) (c : Nat) (zs : List Int) (w : World) (hr : IRow w a zs) (hl : zs.length ≤ 2000000) :
    Calls Try.prog 60 #[.slice a zs.length c] w (NewRow encI 3 zs w) := by
  have HR := Lib.hid hr; clear hr
  have hmk := run_make_row' (P := Try.prog) 28 3 (.int .i64 0) 8 Try.underlying28 Try.dcElemI rfl .i64 .i64 zs.length (by omega) (by omega)
  go_enter Try.func60, Try.ntmps60
  go_wp2_with fail
  clear hmk
  go_loopg [4] zs.length (fun g i wr => ∃ k : Nat, k ≤ zs.length ∧ g = zs.length - k ∧ i = .int .i64 k ∧ wr.ownsRow w.heap.size 3 1 (.slice (some ⟨w.heap.size, 0, none⟩) zs.length zs.length) zs.length ((zs.take k ++ List.replicate (zs.length - k) 0).map encI) ∧ Ext w wr)
  case atStart =>
    refine ⟨0, Nat.zero_le _, rfl, rfl, ?_, (Ext.refl _).alloc _⟩
    have := World.ownsRow_lit (base := w.heap.size) (e := 3) (size := 1) w (madeCells #[.int .i64 0] zs.length) zs.length (Nat.le_refl _) (by unfold maxLen; omega) (by simp [size_madeCells])
    rw [toList_madeCells_one] at this
    simpa using this
  case round =>
    obtain ⟨k, hk, rfl, rfl, own, hext⟩ := hrel
    by_cases hlt : k < zs.length
    · have hz : (k : Int) < (zs.length : Int) := by omega
      obtain ⟨b, off, rfl, hc⟩ := (HR.out.ext hext) k hlt
      unfold encI at hc
      have hold := World.ownsRow.cellAt own k (by omega)
      rw [List.getElem?_eq_getElem (by simp; omega)] at hold
      have hfr := World.ownsRow.frozenAt own k
      have hst := (World.ownsRow.stored own k (encI zs[k])).1
      rw [← List.map_set, set_take1 hlt] at hst
      have HS := Lib.hid hst; clear hst own
      go_wp2_with fail
      go_roundg (zs.length - (k + 1))
      case measure => omega
      case rel => exact ⟨k + 1, by omega, rfl, by go_num, HS.out, hext.setCell (p := ⟨w.heap.size, k, none⟩) (Nat.le_refl _) _⟩
    · have hz : ¬ (k : Int) < (zs.length : Int) := by omega
      go_wp2_with fail
      go_ret
      have hkh : k = zs.length := by omega
      subst hkh
      exact ⟨_, rfl, by simpa using own, hext⟩
set_option maxRecDepth 10000 in
set_option maxHeartbeats 1000000 in
theorem toIntSS_any (a : Option Addr) (c : Nat) (t : List (List Int)) (w : World) (ht : IRows w a t) (hl : t.length ≤ 2000000) (hll : ∀ k (h : k < t.length), t[k].length ≤ 2000000) :
    Calls Try.prog 31 #[.slice a t.length c] w (NewTab encI 3 28 t w) := by
  have HT := Lib.hid ht; clear ht
  have HL := Lib.hid hll; clear hll
  have hmk := run_make_row' (P := Try.prog) 23 28 (.slice none 0 0) 24 Try.underlying23 Try.dcRowI rfl .i64 .i64 t.length (by omega) (by omega)
  go_enter Try.func31, Try.ntmps31
  go_wp2_with fail
  clear hmk
  go_loopg [4] t.length (fun g i wr => ∃ (k : Nat) (vs : List Value), k ≤ t.length ∧ g = t.length - k ∧ i = .int .i64 k ∧ OwnI wr w.heap.size (.slice (some ⟨w.heap.size, 0, none⟩) t.length t.length) vs (t.take k ++ List.replicate (t.length - k) []) ∧ Ext w wr)
  case atStart => exact ⟨0, _, Nat.zero_le _, rfl, rfl, by simpa using OwnT.made (enc := encI) (te := 3) (ts := 28) w t.length (Nat.le_refl _) (by omega), (Ext.refl _).alloc _⟩
  case round =>
    obtain ⟨k, vs, hk, rfl, rfl, own, hext⟩ := hrel
    by_cases hlt : k < t.length
    · have hz : (k : Int) < (t.length : Int) := by omega
      have hlen : k < (t.take k ++ List.replicate (t.length - k) []).length := by simp; omega
      have hsz := hext.size
      have hsl : w.heap.size < wr.heap.size := (own.outer_lt rfl).2
      obtain ⟨b, off, ak, ck, rfl, hck, hlk, hnk, hrk⟩ := (HT.out.ext hext) k hlt
      have HR := Lib.hid hrk; clear hrk hnk
      go_wp2_with fail
      refine (toIntS_any ak ck t[k] _ HR.out (HL.out k hlt)).mono ?_
      rintro e w1 ⟨u, rfl, hu, e1⟩
      have own1 := own.ext e1
      obtain ⟨c1, hc1, _, hf1⟩ := own1.cellAt hlen
      have hub := hu.lt
      have hset := own1.setRow hlen (owns_base hu hsz) (fun b hb => by have := (hub b hb).1; omega)
        (fun l hl _ b hb => by
          have h1 := (hub b hb).1
          intro hh
          have := (own.inner_lt hl hh).2
          omega)
      rw [set_take hlt] at hset
      have HS := Lib.hid hset
      obtain ⟨au, cu, rfl, _⟩ := owns_cells hu
      clear hset own own1 hub hu
      go_wp2_with fail
      go_roundg (t.length - (k + 1))
      case measure => omega
      case rel => exact ⟨k + 1, _, by omega, rfl, by go_num, HS.out, (hext.trans e1).setCell (p := ⟨w.heap.size, k, none⟩) (Nat.le_refl _) _⟩
    · have hz : ¬ (k : Int) < (t.length : Int) := by omega
      go_wp2_with fail
      go_ret
      have hkh : k = t.length := by omega
      subst hkh
      exact ⟨_, vs, rfl, by simpa using own, hext⟩
set_option maxRecDepth 10000 in
set_option maxHeartbeats 400000 in
theorem szIntS_any (a : Option Addr) (n c : Nat) (left : Int) (w : World) (h0 : 0 ≤ left) (h1 : left ≤ 1048576) (hn : n ≤ 9223372036854775807) :
    Calls Try.prog 58 #[.slice a n c, .int .i64 left] w fun e w' => e = .returned (.int .i64 (if left < n then -1 else left - n)) ∧ w = w' := by
  by_cases h : left < n
  · rw [if_pos h]
    have h' : left - (n : Int) < 0 := by omega
    go_enter Try.func58, Try.ntmps58
    go_wp2
    go_ret
    exact ⟨rfl, rfl⟩
  · rw [if_neg h]
    have h' : ¬ left - (n : Int) < 0 := by omega
    go_enter Try.func58, Try.ntmps58
    go_wp2
    go_ret
    exact ⟨rfl, rfl⟩
def sizeI (t : List (List Int)) : Nat := (t.map List.length).sum
theorem sizeI_take (t : List (List Int)) (i : Nat) (h : i < t.length) : sizeI (t.take (i + 1)) = sizeI (t.take i) + t[i].length := by
  unfold sizeI; rw [List.take_succ_eq_append_getElem h, List.map_append, List.sum_append]; simp
theorem sizeI_le (t : List (List Int)) (i : Nat) (h : i < t.length) : t[i].length ≤ sizeI t := by
  have h1 := sizeI_take t i h
  have h2 : sizeI t = sizeI (t.take (i + 1)) + sizeI (t.drop (i + 1)) := by
    unfold sizeI; rw [← List.sum_append, ← List.map_append, List.take_append_drop]
  omega
/-- What the size's count says: if something is left, all lengths are small. -/
def SizeI (t : List (List Int)) (left : Int) (w : World) (e : Ending) (w' : World) : Prop :=
  ∃ r : Int, e = .returned (.int .i64 r) ∧ w = w' ∧ r ≤ left ∧ (0 ≤ r → (t.length : Int) + sizeI t ≤ left)

set_option maxRecDepth 10000 in
set_option maxHeartbeats 1000000 in
theorem szIntSS_any (a : Option Addr) (c : Nat) (t : List (List Int)) (left : Int) (w : World) (ht : IRows w a t) (h0 : 0 ≤ left) (h1 : left ≤ 1048576) (hm : t.length ≤ 9223372036854775807) (hmm : ∀ k (h : k < t.length), t[k].length ≤ 9223372036854775807) :
    Calls Try.prog 29 #[.slice a t.length c, .int .i64 left] w (SizeI t left w) := by
  have HT := Lib.hid ht; clear ht
  have HM := Lib.hid hmm; clear hmm
  by_cases h : left < t.length
  · have h' : left - (t.length : Int) < 0 := by omega
    go_enter Try.func29, Try.ntmps29
    go_wp2_with fail
    go_ret
    exact ⟨-1, rfl, rfl, by omega, fun h => by omega⟩
  · have h' : ¬ left - (t.length : Int) < 0 := by omega
    go_enter Try.func29, Try.ntmps29
    go_wp2_with fail
    go_loop [1, 5] (fun l i => ∃ (k : Nat) (r : Int), k ≤ t.length ∧ i = .int .i64 k ∧ l = .int .i64 r ∧ 0 ≤ r ∧ r ≤ left ∧ Hid (r + t.length + sizeI (t.take k) = left)) (fun _ i => t.length - (intOf i).toNat)
    case atStart => exact ⟨0, left - t.length, Nat.zero_le _, rfl, rfl, by omega, by omega, by simp [Hid, sizeI]⟩
    case round =>
      obtain ⟨k, r, hk, rfl, rfl, hr0, hr1, HA⟩ := hrel
      by_cases hlt : k < t.length
      · have hz : (k : Int) < (t.length : Int) := by omega
        obtain ⟨b, off, ak, ck, rfl, hck, hlk, hnk, hrk⟩ := HT.out k hlt
        clear hrk hnk
        go_wp2_with fail
        refine (szIntS_any _ _ _ r _ hr0 (by omega) (HM.out k hlt)).mono ?_
        rintro e w' ⟨rfl, rfl⟩
        by_cases hs : r < t[k].length
        · rw [if_pos hs]
          go_wp2_with fail
          go_ret
          exact ⟨-1, rfl, rfl, by omega, fun h => by omega⟩
        · rw [if_neg hs]
          have hs' : ¬ r - (t[k].length : Int) < 0 := by omega
          have hst := Lib.hid (sizeI_take t k hlt)
          go_wp2_with fail
          go_round
          case rel => exact ⟨k + 1, _, by omega, by go_num, rfl, by omega, by omega, by have h1 := HA.out; have h2 := hst.out; simp only [Hid]; omega⟩
          case measure => simp [intOf]; omega
      · have hz : ¬ (k : Int) < (t.length : Int) := by omega
        go_wp2_with fail
        go_ret
        exact ⟨r, rfl, rfl, hr1, fun _ => by have h1 := HA.out; rw [List.take_of_length_le (by omega)] at h1; omega⟩
end Go.Proofs.Ytelcdjbbcffliaa

/- The reference's checks of tables. -/
namespace Go.Proofs.Ytelcdjbbcffliaa
open Go.RowKit Go.DC
def inBt (n lo hi : Int) : Bool := decide (lo ≤ n) && decide (n ≤ hi)
/-- A call that hands back v and only draws. -/
def Quiet (v : Value) (w : World) (e : Ending) (w' : World) : Prop := e = .returned v ∧ ∃ m, w' = w.drewN m
theorem Quiet.ext {v : Value} {w w' : World} {e : Ending} (h : Quiet v w e w') : e = .returned v ∧ Ext w w' := by
  obtain ⟨he, m, rfl⟩ := h
  exact ⟨he, (Ext.refl w).drewN m⟩
set_option maxRecDepth 10000 in
set_option maxHeartbeats 400000 in
theorem l6InT_any (n lo hi : Int) (w : World) :
    Calls Try.prog 70 #[.int .i64 n, .int .i64 lo, .int .i64 hi] w fun e w' => e = .returned (.bool (inBt n lo hi)) ∧ w = w' := by
  by_cases h : lo ≤ n
  · have hh : inBt n lo hi = decide (n ≤ hi) := by simp [inBt, h]
    have H := Lib.hid hh; clear hh
    go_enter Try.func70, Try.ntmps70
    go_wp2
    go_ret
    rw [H.out]; simp
  · have h' : decide (lo ≤ n) = false := by simpa using h
    have hh : inBt n lo hi = false := by simp [inBt, h]
    have H := Lib.hid hh; clear hh
    go_enter Try.func70, Try.ntmps70
    go_wp2
    go_ret
    rw [H.out]; simp
set_option maxRecDepth 10000 in
set_option maxHeartbeats 1000000 in
theorem sTableValid_q (a : Option Addr) (c : Nat) (t : List (List Int)) (w : World) (ht : IRows w a t) (hm : t.length ≤ 9223372036854775807) :
    Calls Try.prog 48 #[.slice a t.length c] w (Quiet (.bool (tabOk t)) w) := by
  have HT := Lib.hid ht; clear ht
  by_cases h1 : inBt t.length 1 4 = true
  case neg =>
    have h1' : inBt t.length 1 4 = false := by simpa using h1
    have ho := Lib.hid (tabOk_short (t := t) (fun h => h1 (by simp [inBt]; omega)))
    go_enter Try.func48, Try.ntmps48
    go_wp2_with fail
    refine (l6InT_any _ _ _ _).mono ?_
    rintro e w' ⟨rfl, rfl⟩
    rw [h1']
    clear h1 h1'
    go_wp2_with fail
    go_ret
    exact ⟨ret_bool ho.out.symm, 0, rfl⟩
  have h1' : 1 ≤ t.length ∧ t.length ≤ 4 := by simp [inBt] at h1; omega
  have h0 : 0 < t.length := by omega
  obtain ⟨b, off, a0, c0, rfl, hc0, _, _, _⟩ := HT.out 0 h0
  rw [← wide_eq h0] at hc0
  simp only [Nat.add_zero] at hc0
  have h0z : (0 : Int) < (t.length : Int) := by omega
  have H1 := Lib.hid h1; clear h1
  by_cases h2 : inBt (wide t) 1 4 = true
  case neg =>
    have h2' : inBt (wide t) 1 4 = false := by simpa using h2
    have ho := Lib.hid (tabOk_short (t := t) (fun h => h2 (by simp [inBt]; omega)))
    have H2 := Lib.hid h2'; clear h2 h2'
    go_enter Try.func48, Try.ntmps48
    go_wp2_with fail
    refine (l6InT_any _ _ _ _).mono ?_
    rintro e w' ⟨rfl, rfl⟩
    rw [H1.out]
    go_wp2_with fail
    refine (l6InT_any _ _ _ _).mono ?_
    rintro e w' ⟨rfl, rfl⟩
    rw [H2.out]
    go_wp2_with fail
    go_ret
    exact ⟨ret_bool ho.out.symm, 0, rfl⟩
  have h2' : 1 ≤ wide t ∧ wide t ≤ 4 := by simp [inBt] at h2; omega
  have HL := Lib.hid (tabOk_long (t := t) ⟨h1'.1, h1'.2, h2'.1, h2'.2⟩)
  have H2 := Lib.hid h2; clear h2
  obtain ⟨h1a, h1b⟩ := h1'
  obtain ⟨h2a, h2b⟩ := h2'
  go_enter Try.func48, Try.ntmps48
  go_wp2_with fail
  refine (l6InT_any _ _ _ _).mono ?_
  rintro e w' ⟨rfl, rfl⟩
  rw [H1.out]
  go_wp2_with fail
  refine (l6InT_any _ _ _ _).mono ?_
  rintro e w' ⟨rfl, rfl⟩
  rw [H2.out]
  go_wp2_with fail
  go_loopg [3] t.length (fun g i wr => ∃ (k m : Nat), k ≤ t.length ∧ g = t.length - k ∧ i = .int .i64 k ∧ Hid ((t.take k).all (rowOk (wide t)) = true) ∧ wr = w.drewN m)
  case atStart => exact ⟨0, 0, Nat.zero_le _, rfl, rfl, by simp [Hid], rfl⟩
  case round =>
    obtain ⟨k, m, hk, rfl, rfl, hall, rfl⟩ := hrel
    by_cases hlt : k < t.length
    · have hltz : (k : Int) < (t.length : Int) := by omega
      obtain ⟨b', off', ak, ck, hb, hck, _, _, hrk⟩ := HT.out k hlt
      cases hb
      by_cases hw : t[k].length = wide t
      · rw [hw] at hck
        have HRK := Lib.hid hrk; clear hrk
        have HW := Lib.hid hw; clear hw
        have hwz : ((wide t : Int) != (wide t : Int)) = false := by simp
        go_wp2_with fail
        go_quiet (fail)
        go_wp2_with fail
        obtain ⟨m', hm'⟩ : ∃ m', (w.drewN m).drewN nq = w.drewN m' := ⟨_, World.drewN_drewN _ _ _⟩
        rw [hm']
        clear hm'
        go_loopg [4] (wide t) (fun g i wi => ∃ (j : Nat), j ≤ wide t ∧ g = wide t - j ∧ i = .int .i64 j ∧ Hid ((t[k].take j).all cellOk = true) ∧ wi = w.drewN m')
        case atStart => exact ⟨0, Nat.zero_le _, rfl, rfl, by simp [Hid], rfl⟩
        case round =>
          obtain ⟨j, hj, rfl, rfl, hallj, rfl⟩ := hrel
          by_cases hjt : j < wide t
          · have hjz : (j : Int) < (wide t : Int) := by omega
            have hjk : j < t[k].length := by rw [HW.out]; exact hjt
            obtain ⟨b2', off2, rfl, hcj⟩ := HRK.out j hjk
            obtain ⟨z, hz⟩ : ∃ z, t[k][j] = z := ⟨_, rfl⟩
            rw [hz] at hcj
            have HZ := Lib.hid hz; clear hz
            unfold encI at hcj
            go_wp2_with fail
            refine (l6InT_any _ _ _ _).mono ?_
            rintro e w' ⟨rfl, rfl⟩
            cases hz : inBt z 0 99
            · have hno : cellOk z = false := hz
              have HN := Lib.hid hno; clear hno hz
              go_wp2_with fail
              go_ret
              refine ⟨ret_bool ?_, m', rfl⟩
              rw [HL.out, all_not hlt]
              unfold rowOk
              rw [all_not hjk, Bool.and_false]
              rw [HZ.out]; exact HN.out
            · have hno : cellOk z = true := hz
              have HN := Lib.hid hno; clear hno hz
              go_wp2_with fail
              go_roundg (wide t - (j + 1))
              case measure => omega
              case rel => exact ⟨j + 1, by omega, rfl, by go_num, all_step hjk hallj.out (by rw [HZ.out]; exact HN.out), rfl⟩
          · have hjz : ¬ (j : Int) < (wide t : Int) := by omega
            have hrow : rowOk (wide t) t[k] = true := by
              have := hallj.out
              rw [List.take_of_length_le (by rw [HW.out]; omega)] at this
              simp [rowOk, HW.out, this]
            have HR := Lib.hid hrow; clear hrow
            go_wp2_with fail
            go_roundg (t.length - (k + 1))
            case measure => omega
            case rel => exact ⟨k + 1, m', by omega, rfl, by go_num, all_step hlt hall.out HR.out, rfl⟩
      · have hwz : ((t[k].length : Int) != (wide t : Int)) = true := by rw [bne_iff_ne]; omega
        have hwz2 : ¬ (t[k].length : Int) = (wide t : Int) := by omega
        have hno : rowOk (wide t) t[k] = false := by simp [rowOk, hw]
        have HN := Lib.hid hno; clear hno hw
        go_wp2_with fail
        go_quiet (fail)
        go_wp2_with fail
        go_ret
        exact ⟨ret_bool (by rw [HL.out, all_not hlt HN.out]), _, World.drewN_drewN _ _ _⟩
    · have hltz : ¬ (k : Int) < (t.length : Int) := by omega
      go_wp2_with fail
      go_ret
      refine ⟨ret_bool ?_, m, rfl⟩
      have := hall.out
      rw [List.take_of_length_le (by omega)] at this
      rw [HL.out, this]
theorem sTableValid_any (a : Option Addr) (c : Nat) (t : List (List Int)) (w : World) (ht : IRows w a t) (hm : t.length ≤ 9223372036854775807) :
    Calls Try.prog 48 #[.slice a t.length c] w (Ret (.bool (tabOk t)) w) := (sTableValid_q a c t w ht hm).mono fun _ _ h => h.ext
end Go.Proofs.Ytelcdjbbcffliaa

/- The reference's difference of two tables. -/
namespace Go.Proofs.Ytelcdjbbcffliaa
open Go.RowKit Go.DC
theorem shape_iff {s t : List (List Int)} (h1 : tabOk s = true) (h2 : tabOk t = true) : shape s = shape t ↔ s.length = t.length ∧ wide s = wide t := by
  obtain ⟨r1, a1, _, _, _, _⟩ := tabOk_rect h1
  obtain ⟨r2, b1, _, _, _, _⟩ := tabOk_rect h2
  constructor
  · intro e
    have r := shape_rect h1 e
    refine ⟨shape_len e, ?_⟩
    have := r.2 0 (by omega)
    rw [r2.2 0 (by omega)] at this
    exact this.symm
  · rintro ⟨e1, e2⟩
    exact shape_eq e1 (fun k h1' h2' => by rw [r1.2 k h1', r2.2 k h2', e2])
end Go.Proofs.Ytelcdjbbcffliaa
