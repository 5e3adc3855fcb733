/- A loop over a table's cells that may end early: how far it has come. -/
import Derived.Test.YtelcdjbbcffliaaCells
namespace Go.Proofs.Ytelcdjbbcffliaa
open Go.RowKit Go.DC Go.Shelf
attribute [local go_sem] Oper.semAt_some
/-- The list of the cells up to (k, j), that one too. -/
def PreAt (h m k j : Nat) (pre : List (Cell h m)) : Prop := ∃ (hk : k < h) (hj : j + 1 ≤ m), pre = firstCells h m k (Nat.le_of_lt hk) ++ rowCells h m k (j + 1) hk hj
set_option maxRecDepth 100000 in
set_option maxHeartbeats 2000000 in
theorem cells1_pre (F : Fence) (n : Nat) (h7 : F.fn 75) (hro : F.round = none) (_hn : 1 ≤ n) (l Bs h m : Nat) (a : Option Addr) (c : Nat) (t : List (List Int)) (w0 : World) (ht : IRows w0 a t) (hh : t.length = h) (hm : ∀ k (hk : k < t.length), t[k].length = m) (hh4 : h ≤ 4) (hm4 : m ≤ 4)
    (J Jx : List (Cell h m) → World → Prop)
    (hY : ∀ pre x W, J pre W → pre.length < h * m → YieldAt F (n - 1) Try.prog l (encC x) W fun e W' =>
      (e = .returned (.bool true) ∧ J (pre ++ [x]) W' ∧ Below w0.heap.size W W') ∨ (e = .returned (.bool false) ∧ Jx (pre ++ [x]) W'))
    (W : World) (hW : Below w0.heap.size w0 W) (hBs : W.cell? ⟨Bs, 0, none⟩ = some (.slice a t.length c)) (h0 : J [] W) :
    CallsIn F n Try.prog 75 #[.func (.yield l) #[] #[], .pointer (some ⟨Bs, 0, none⟩)] W fun e W' => (∃ v, e = .returned v) ∧
      ((∃ ys, ys = allCells h m ∧ J ys W') ∨ (∃ pre, (∃ k j, PreAt h m k j pre) ∧ Jx pre W')) := by
  subst hh
  have HT := Lib.hid ht; clear ht
  have HM := Lib.hid hm; clear hm
  refine callsIn_of_wp Try.func75 rfl h7 ?_ hro
  simp only [Try.ntmps75, List.size_toArray, List.length_cons, List.length_nil, Nat.reduceAdd, Nat.reduceSub, Array.replicate_succ, Array.replicate_zero, List.push_toArray, List.append_toArray, List.nil_append, List.cons_append]
  gi_wp2
  gi_loopw [8] (fun i wr => ∃ (k : Nat) (hk : k ≤ t.length), i = .int .i64 k ∧ J (firstCells t.length m k hk) wr ∧ Below w0.heap.size w0 wr) (fun i _ => t.length - (intOf i).toNat)
  case atStart => exact ⟨0, Nat.zero_le _, rfl, h0, hW⟩
  case round =>
    obtain ⟨k, hk, rfl, hJs, hnx⟩ := hrel
    by_cases hlt : k < t.length
    · obtain ⟨b, off, ak, ck, rfl, hck, _, _, _⟩ := HT.out k hlt
      have hcx : wr.cell? ⟨b, off + k, none⟩ = some (.slice ak t[k].length ck) := (Below.cell hnx (p := ⟨b, off + k, none⟩) (World.block_lt_of_cell? _ _ hck)).trans hck
      rw [HM.out k hlt] at hcx
      clear hck
      gi_wp2
      gi_loopw [15] (fun i wi => ∃ (j : Nat) (hj : j ≤ m), i = .int .i64 j ∧ J (firstCells t.length m k hk ++ rowCells t.length m k j hlt hj) wi ∧ Below w0.heap.size w0 wi) (fun i _ => m - (intOf i).toNat)
      case atStart => exact ⟨0, Nat.zero_le _, rfl, by rw [rowCells_zero, List.append_nil]; exact hJs, hnx⟩
      case round =>
        obtain ⟨j, hj, rfl, hJj, hnj⟩ := hrel
        by_cases hjt : j < m
        · obtain ⟨fn, tmps, assign, body, hy, hR⟩ := hY _ ⟨(k, j), hlt, hjt⟩ _ hJj (by rw [List.length_append, firstCells_length, rowCells_length]; exact lt_all hlt hjt)
          gi_wp2
          refine hR.mono ?_
          rintro e W3 (⟨rfl, hJ3, hk3⟩ | ⟨rfl, hJx3⟩)
          · gi_wp2
            go_roundw
            case rel => exact ⟨j + 1, hjt, by simp, by rw [rowCells_succ, ← List.append_assoc]; exact hJ3, hnj.trans hk3⟩
            case measure => simp [intOf]; omega
          · gi_wp2
            refine bodyPost_ret (results_none rfl _ _ _) rfl ?_
            exact ⟨⟨_, rfl⟩, .inr ⟨_, ⟨k, j, hlt, hjt, by rw [rowCells_succ, ← List.append_assoc]⟩, hJx3⟩⟩
        · have hjm : j = m := by omega
          have HJ := Lib.hid hjm; clear hjm
          gi_wp2
          go_roundw
          case rel => exact ⟨k + 1, by omega, by simp, by have := hJj; rw [show rowCells t.length m k j hlt hj = rowCells t.length m k m hlt (Nat.le_refl _) by have := HJ.out; subst this; rfl] at this; exact this, hnj⟩
          case measure => simp [intOf]; omega
    · have hkt : k = t.length := by omega
      have HK := Lib.hid hkt; clear hkt
      gi_wp2
      go_end0
      exact ⟨⟨_, rfl⟩, .inl ⟨_, by have := HK.out; subst this; rfl, hJs⟩⟩

theorem cells_stops_pre (F : Fence) (n : Nat) (h7 : F.fn 75) (hro : F.round = none) (hn : 1 ≤ n) (Bs h m : Nat) (a : Option Addr) (c : Nat) (t : List (List Int)) (w0 w : World) (ht : IRows w0 a t) (hh : t.length = h) (hm : ∀ k (hk : k < t.length), t[k].length = m) (hh4 : h ≤ 4) (hm4 : m ≤ 4)
    (hw : Below w0.heap.size w0 w) (hBs : w.cell? ⟨Bs, 0, none⟩ = some (.slice a t.length c)) :
    SeqStopsK F n Try.prog 75 #[.pointer (some ⟨Bs, 0, none⟩)] (encC (h := h) (m := m)) (Below w0.heap.size) (fun ys => ys = allCells h m) (fun pre => ∃ k j, PreAt h m k j pre) (h * m) w := fun l J Jx W hW _ _ hY h0 => by
  refine (cells1_pre F n h7 hro hn l Bs h m a c t w0 ht hh hm hh4 hm4 J Jx hY W (hw.trans (hW.mono hw.size)) ((Below.cell hW (p := ⟨Bs, 0, none⟩) (World.block_lt_of_cell? _ _ hBs)).trans hBs) h0).mono ?_
  rintro e W' ⟨he, ⟨ys, hys, hj⟩ | ⟨pre, hp, hj⟩⟩
  · exact ⟨he, .inl ⟨ys, hys, hj⟩⟩
  · exact ⟨he, .inr ⟨pre, hp, hj⟩⟩

theorem wpIn_cells_pre {g : Operand} {ps : Array Tmp} {assign body : Code} {Q : Exit → Act → World → Prop} {a : Act} {w : World} {n : Nat} (hn : 2 ≤ n) (w0 : World) (Bs h m : Nat) (aT : Option Addr) (cT : Nat) (t : List (List Int))
    (ht : IRows w0 aT t) (hr : Rect t h m) (hh4 : h ≤ 4) (hm4 : m ≤ 4) (hg : a.eval g = .func (.func 75) #[] #[.pointer (some ⟨Bs, 0, none⟩)]) (hw : Ext w0 w) (hBs : w.cell? ⟨Bs, 0, none⟩ = some (.slice aT t.length cT)) (hps : ps.size = 2)
    (I : List (Cell h m) → World → Prop) (Ix : Code → List (Cell h m) → World → Prop) (hI : ∀ s A B, I s A → Cel A B → I s B) (hIx : ∀ c s A B, Ix c s A → Cel A B → Ix c s B) (h0 : I [] w)
    (hround : ∀ (l : Nat) (x : Cell h m) (W : World) (K : Act → World → Prop), (∀ a', (∀ (l' : Nat) (pre : List (Cell h m)) (W' : World), I pre W' → Ext w0 W' → pre.length < h * m → body.wpIn (Fence.wide.inRound l') (n - 1 - 1) Try.prog
        (ownPostG w.heap.size (Below w0.heap.size) (fun s W => I s W ∧ Ext w0 W) (fun c s W => Ix c s W ∧ Ext w0 W) (pre ++ [x]) W') a' W') → K a' W) →
      assign.wpIn (Fence.wide.inRound l) (n - 1 - 1) Try.prog (Exit.then K (fun _ _ _ => False)) { tmps := (ps.zip (encC x)).foldl (fun t (p, v) => t.setIfInBounds p v) a.tmps, defers := [] } W)
    (hdone : ∀ (D : Nat) (W : World), w.heap.size ≤ D → I (allCells h m) W → Ext w0 W → W.heap[D]? = some (.deferred (some [])) → Q .normal { a with defers := { target := .collected D, args := #[] } :: a.defers } W)
    (hstop : ∀ (D : Nat) (c : Code) (pre : List (Cell h m)) (W : World), w.heap.size ≤ D → (∃ k j, PreAt h m k j pre) → Ix c pre W → Ext w0 W → W.heap[D]? = some (.deferred (some [])) → c.wpIn Fence.wide n Try.prog Q { a with defers := { target := .collected D, args := #[] } :: a.defers } W) :
    (Code.rangeFunc g ps assign body).wpIn Fence.wide n Try.prog Q a w := by
  have hsz := hw.size
  have hE : ∀ {A B : World} {row : Option Nat}, Ext w0 A → A.grownBy B row → (∀ r, row = some r → w.heap.size ≤ r ∧ ∃ o : Obj, A.heap[r]? = some o ∧ o.isCells = false) → Ext w0 B := fun e hg' hr' => e.grownNew hg' (fun k hk => Nat.le_trans hsz (hr' k hk).1)
  refine wpIn_rangeFunc_ownH rfl (by omega) (gf := 75) (lb := #[.pointer (some ⟨Bs, 0, none⟩)]) hg (wide_fn _) (enters_of Try.func75 (by kernel_rfl) rfl)
    (cells_stops_pre Fence.wide (n - 1) (wide_fn _) rfl (by omega) Bs h m aT cT t w0 w ht hr.1 hr.2 hh4 hm4 hw hBs) belowK_t (belowK_b hsz) (Below.refl _ _) (fun _ => hps.symm)
    (fun s W => I s W ∧ Ext w0 W) (fun c s W => Ix c s W ∧ Ext w0 W)
    (fun s A B row hs hg' hr' => ⟨hI s A B hs.1 (Cel.of_turn hg' (fun r e => (hr' r e).2)), hE hs.2 hg' hr'⟩)
    (fun c s A B row hs hg' hr' => ⟨hIx c s A B hs.1 (Cel.of_turn hg' (fun r e => (hr' r e).2)), hE hs.2 hg' hr'⟩)
    ⟨h0, hw⟩
    (fun x a' _ => ∀ (l' : Nat) (pre : List (Cell h m)) (W' : World), I pre W' → Ext w0 W' → pre.length < h * m → body.wpIn (Fence.wide.inRound l') (n - 1 - 1) Try.prog
        (ownPostG w.heap.size (Below w0.heap.size) (fun s W => I s W ∧ Ext w0 W) (fun c s W => Ix c s W ∧ Ext w0 W) (pre ++ [x]) W') a' W')
    (fun x a' => ownFrom_pure _ _) ?_ ?_ ?_ ?_
  · intro l pre x W K hi hK
    exact hround l x W K (fun a' ha' => hK a' W (KeepsFrom.refl _ _) (Below.refl _ _) hi ha')
  · intro l pre x a' W _ _ hi hax hlt
    exact hax l pre W hi.1 hi.2 hlt
  · rintro D xs W hD rfl hi hK
    exact hdone D W hD hi.1 hi.2 hK
  · intro D c pre W hD hp hi hK
    exact hstop D c pre W hD hp hi.1 hi.2 hK
end Go.Proofs.Ytelcdjbbcffliaa
