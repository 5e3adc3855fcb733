/- Small words on memory that every proof of this seat uses: 'Ext w w'' says that w' holds all of w's memory as it was. No conditions. -/
import Derived.WalkKit
import Derived.WalkSpells
import Derived.WalkLawsBesides
import Derived.Lib.Hide
import Derived.Deep.OwnRows
import Derived.Deep.LoopGhost
import Derived.Deep.QuietTactic
import Derived.BigQuiet
import Derived.BigRegion
import Derived.BigGuard
import Derived.Deep.Light
import Derived.Deep.CutRange
import Derived.Deep.DeepCutAuto
import Derived.Handy
import Derived.StillTailTactics
import Derived.Deep.RegionWith
import Derived.Deep.RegionHeld3
import Derived.RangeFuncCalls
import Derived.OrdersIn
import Derived.Deep.Quiet
import Derived.StillTail
/- Small words on memory that every proof of this seat uses: 'Ext w w'' says that w' holds all of w's memory as it was. No conditions. -/
namespace Go.DC
open Go.RowKit

def Ext (w w' : World) : Prop := Below w.heap.size w w'

theorem Ext.refl (w : World) : Ext w w := Below.refl _ _
theorem Ext.trans {a b c : World} (h : Ext a b) (k : Ext b c) : Ext a c :=
  Below.trans h (Below.mono k h.size)
theorem Ext.below {a b : World} (h : Ext a b) : Below a.heap.size a b := h
theorem Ext.of_below {a b : World} (h : Below a.heap.size a b) : Ext a b := h
theorem Ext.size {a b : World} (h : Ext a b) : a.heap.size ≤ b.heap.size := Below.size h
theorem Ext.drew {a b : World} (h : Ext a b) : Ext a b.drew := Below.drew h
theorem Ext.drewN {a b : World} (h : Ext a b) (n : Nat) : Ext a (b.drewN n) := ⟨h.os, h.tape, h.output, h.size, h.block⟩
theorem Ext.alloc {a b : World} (h : Ext a b) (o : Obj) : Ext a (b.alloc o) := Below.alloc h (Below.size h) o
theorem Ext.setCell {a b : World} (h : Ext a b) {p : Addr} (hp : a.heap.size ≤ p.block) (u : Value) : Ext a (b.setCell p u) := Below.setCell h hp u
theorem Ext.of_alloc {a b : World} {o : Obj} (h : Ext (a.alloc o) b) : Ext a b := ((Ext.refl a).alloc o).trans h
theorem Ext.of_drew {a b : World} (h : Ext a.drew b) : Ext a b := ((Ext.refl a).drew).trans h
theorem Ext.cell {a b : World} (h : Ext a b) {p : Addr} {v : Value} (hc : a.cell? p = some v) : b.cell? p = some v :=
  (Below.cell h (World.block_lt_of_cell? _ _ hc)).trans hc
theorem Ext.frozen {a b : World} (h : Ext a b) {p : Addr} {v : Value} (hc : a.cell? p = some v) : b.frozen? p = a.frozen? p :=
  Below.frozen h (World.block_lt_of_cell? _ _ hc)

/-- What a call gives back, all old memory being as it was. -/
def Ret (v : Value) (w : World) (e : Ending) (w' : World) : Prop := e = .returned v ∧ Ext w w'

theorem not_t {b : Bool} (h : (!b) = true) : b = false := by simpa using h
theorem not_f {b : Bool} (h : (!b) = false) : b = true := by simpa using h
theorem ret_bool {a b : Bool} (h : a = b) : Ending.returned (.bool a) = .returned (.bool b) := by rw [h]
theorem ret_int {k : IntKind} {a b : Int} (h : a = b) : Ending.returned (.int k a) = .returned (.int k b) := by rw [h]

end Go.DC

/- Regions that draw their order, in a round of a loop over a function: the laws of plain regions serve there too. -/
namespace Go.DC
open Go.RowKit
section
variable {P : Program} {l n : Nat}
theorem oper_in {o : Oper} {a : Act} {w : World} {K : Act → World → Prop} {Q : Exit → Act → World → Prop} (ho : ∀ c, o.op ≠ .defer c) (h : o.wp P a w K Q) : o.wpIn (Fence.wide.inRound l) n P a w K Q := by
  unfold Oper.wp at h
  unfold Oper.wpIn
  refine ⟨fun _ _ => trivial, ?_⟩
  rw [Oper.semAt_eq _ _ _ ho]
  generalize (execOp a.eval o).run P w = r at h ⊢
  cases r with
  | ok nx w' =>
    cases nx with
    | value v => exact h
    | skip => exact h
    | defer d => exact h
    | enter f args => exact ⟨fun hh => by simp [Fence.wide] at hh, CallsIn.inRound l (callsIn_wide.2 h)⟩
    | row row args => exact ⟨fun hh => by simp [Fence.wide] at hh, fun c cs _ => by obtain ⟨v, w'', hr, hs⟩ := h c cs; exact ⟨v, w'', hr, stepsIn_wide.2 hs⟩⟩
    | _ => exact h.elim
  | halt x w' =>
    cases x with
    | panic v => exact h
    | _ => exact h.elim
def noDefer (ops : List Oper) : Bool := ops.all fun o => match o.op with | .defer _ => false | _ => true
theorem noDefer_spec {ops : List Oper} (h : noDefer ops = true) {i : Nat} {o : Oper} (hi : ops.toArray[i]? = some o) : ∀ c, o.op ≠ .defer c := fun c e => by
  have hm : o ∈ ops := by
    have : ops[i]? = some o := by simpa using hi
    exact List.mem_of_getElem? this
  have := List.all_eq_true.1 h o hm
  simp [e] at this
/-- The same, but that nothing outgrows the machine. -/
def noOut (Q : Exit → Act → World → Prop) : Exit → Act → World → Prop := fun e a w => e ≠ .outgrown ∧ Q e a w
theorem noOut_normal {Q : Exit → Act → World → Prop} {a : Act} {w : World} (h : Q .normal a w) : noOut Q .normal a w := ⟨by simp, h⟩
theorem noOut_not (Q : Exit → Act → World → Prop) : ¬ LetsOut (noOut Q) := fun ⟨_, _, h⟩ => h.1 rfl
theorem wpOp_in {ops : List Oper} {i : Nat} {a : Act} {w : World} {K K' : Act → World → Prop} {Q : Exit → Act → World → Prop} (hq : ¬ LetsOut Q) (hd : noDefer ops = true) (hK : ∀ a w, K a w → K' a w) (h : wpOp P ops.toArray Q i K a w) : wpOpIn (Fence.wide.inRound l) n P ops.toArray Q i K' a w := by
  unfold wpOp at h
  unfold wpOpIn
  cases ho : ops.toArray[i]? with
  | none => simp only [ho] at h; exact hK _ _ h
  | some o =>
    simp only [ho] at h ⊢
    split
    · rename_i hw
      simp only [hw, if_true] at h
      exact Oper.wpIn_mono hK (oper_in (noDefer_spec hd ho) (h.resolve_right (fun x => hq x.2)))
    · rename_i hw
      simp only [hw] at h
      exact ⟨fun _ _ => trivial, hK _ _ h⟩
theorem wpAny_in {md : Region.Mode} {ops : List Oper} {Q : Exit → Act → World → Prop} (hq : ¬ LetsOut Q) (hd : noDefer ops = true) : ∀ (fuel : Nat) (listed : Array Bool) (a : Act) (w : World), wpAny P md ops.toArray Q fuel listed a w → wpAnyIn (Fence.wide.inRound l) n P md ops.toArray Q fuel listed a w
  | 0, _, _, _, h => h
  | fuel + 1, _, _, _, h => ⟨h.1, fun i hi => wpOp_in hq hd (fun a' w' h' => wpAny_in hq hd fuel _ a' w' h') (h.2 i hi)⟩
theorem wpR_any {id : Nat} {ops : List Oper} {Q : Exit → Act → World → Prop} {a : Act} {w : World} (hm : P.follows .mixedOrders = true) (hd : noDefer ops = true)
    (h : wpAny P .any ops.toArray (noOut Q) ops.toArray.size (Array.replicate ops.toArray.size false) a { w with drawn := w.drawn + 1 }) : (Code.region id ops.toArray true).wpIn (Fence.wide.inRound l) n P Q a w :=
  wpIn_mono (wpIn_region_any hm (wpAny_in (noOut_not Q) hd _ _ _ _ h)) (fun _ _ _ h => h.2)
/-- Operations that only read come first, in the text's order; then the rest, in its order. -/
theorem wpR_still_tail {id : Nat} {Q : Exit → Act → World → Prop} {a : Act} {w : World} {ops : List Oper} (k : Nat) (hm : P.follows .mixedOrders = true) (hd : noDefer ops = true) (hB : Region.lexTailB .any ops.toArray k = true)
    (h : wpStill P ops.toArray { w with drawn := w.drawn + 1 } (fun a' => wpList P ops.toArray (noOut Q) (ops.drop k) a' { w with drawn := w.drawn + 1 }) (ops.take k) a) : (Code.region id ops.toArray true).wpIn (Fence.wide.inRound l) n P Q a w := by
  simp only [Region.lexTailB, Bool.and_eq_true, decide_eq_true_eq] at hB
  obtain ⟨⟨⟨⟨hsel, hn⟩, hs⟩, hc⟩, hlex⟩ := hB
  have hn' : k < ops.length := by simpa using hn
  have htl : (ops.take k).length = k := by simp; omega
  have hdl : (ops.drop k).length = ops.toArray.size - k := by simp
  have inv0 : HeadInv .any ops.toArray k (Array.replicate ops.toArray.size false) :=
    ⟨by simp, fun j oj _ hl => (by rw [getD_replicate_false] at hl; cases hl), fun t _ ht => getD_in (by simpa using ht) (getD_replicate_false _ _)⟩
  have H := wpAnyL_lex (md := .any) (g := ops.toArray.size - k) hsel hs hc hn (ops.take k) 0 _ a (fun j hj => by
    have hj' : j < k := by rw [htl] at hj; exact hj
    simp [hj']) (by simpa using htl) inv0 (by rw [htl]; exact hlex) h
  refine wpR_any hm hd ?_
  have := wpAny_of_head (Q' := noOut Q) (g := ops.toArray.size - k) (fun listed a' hL => by
    have := wpAny_of_seq (md := .any) (Q' := noOut Q) (ops.drop k) k listed a' { w with drawn := w.drawn + 1 } (fun j => by simp [List.getElem?_drop]) (by rw [hdl]; exact hL.1) hL.2
    rwa [hdl] at this) _ _ _ H
  rw [htl, show k + (ops.toArray.size - k) = ops.toArray.size by omega] at this
  exact this
end
end Go.DC

/- Regions that draw their order, in a body of the wide fence: the laws of plain regions serve there too. -/
namespace Go.DC
open Go.RowKit
section
variable {P : Program} {n : Nat}
theorem oper_inW {o : Oper} {a : Act} {w : World} {K : Act → World → Prop} {Q : Exit → Act → World → Prop} (ho : ∀ c, o.op ≠ .defer c) (h : o.wp P a w K Q) : o.wpIn Fence.wide n P a w K Q := by
  unfold Oper.wp at h
  unfold Oper.wpIn
  refine ⟨fun _ _ => trivial, ?_⟩
  rw [Oper.semAt_eq _ _ _ ho]
  generalize (execOp a.eval o).run P w = r at h ⊢
  cases r with
  | ok nx w' =>
    cases nx with
    | value v => exact h
    | skip => exact h
    | defer d => exact h
    | enter f args => exact ⟨fun hh => by simp [Fence.wide] at hh, callsIn_wide.2 h⟩
    | row row args => exact ⟨fun hh => by simp [Fence.wide] at hh, fun c cs _ => by obtain ⟨v, w'', hr, hs⟩ := h c cs; exact ⟨v, w'', hr, stepsIn_wide.2 hs⟩⟩
    | _ => exact h.elim
  | halt x w' =>
    cases x with
    | panic v => exact h
    | _ => exact h.elim
theorem wpOp_inW {ops : List Oper} {i : Nat} {a : Act} {w : World} {K K' : Act → World → Prop} {Q : Exit → Act → World → Prop} (hq : ¬ LetsOut Q) (hd : noDefer ops = true) (hK : ∀ a w, K a w → K' a w) (h : wpOp P ops.toArray Q i K a w) : wpOpIn Fence.wide n P ops.toArray Q i K' a w := by
  unfold wpOp at h
  unfold wpOpIn
  cases ho : ops.toArray[i]? with
  | none => simp only [ho] at h; exact hK _ _ h
  | some o =>
    simp only [ho] at h ⊢
    split
    · rename_i hw
      simp only [hw, if_true] at h
      exact Oper.wpIn_mono hK (oper_inW (noDefer_spec hd ho) (h.resolve_right (fun x => hq x.2)))
    · rename_i hw
      simp only [hw] at h
      exact ⟨fun _ _ => trivial, hK _ _ h⟩
theorem wpAny_inW {md : Region.Mode} {ops : List Oper} {Q : Exit → Act → World → Prop} (hq : ¬ LetsOut Q) (hd : noDefer ops = true) : ∀ (fuel : Nat) (listed : Array Bool) (a : Act) (w : World), wpAny P md ops.toArray Q fuel listed a w → wpAnyIn Fence.wide n P md ops.toArray Q fuel listed a w
  | 0, _, _, _, h => h
  | fuel + 1, _, _, _, h => ⟨h.1, fun i hi => wpOp_inW hq hd (fun a' w' h' => wpAny_inW hq hd fuel _ a' w' h') (h.2 i hi)⟩
theorem wpW_any {id : Nat} {ops : List Oper} {Q : Exit → Act → World → Prop} {a : Act} {w : World} (hm : P.follows .mixedOrders = true) (hd : noDefer ops = true)
    (h : wpAny P .any ops.toArray (noOut Q) ops.toArray.size (Array.replicate ops.toArray.size false) a { w with drawn := w.drawn + 1 }) : (Code.region id ops.toArray true).wpIn Fence.wide n P Q a w :=
  wpIn_mono (wpIn_region_any hm (wpAny_inW (noOut_not Q) hd _ _ _ _ h)) (fun _ _ _ h => h.2)
/-- Operations that only read come first, in the text's order; then the rest, in its order. -/
theorem wpW_still_tail {id : Nat} {Q : Exit → Act → World → Prop} {a : Act} {w : World} {ops : List Oper} (k : Nat) (hm : P.follows .mixedOrders = true) (hd : noDefer ops = true) (hB : Region.lexTailB .any ops.toArray k = true)
    (h : wpStill P ops.toArray { w with drawn := w.drawn + 1 } (fun a' => wpList P ops.toArray (noOut Q) (ops.drop k) a' { w with drawn := w.drawn + 1 }) (ops.take k) a) : (Code.region id ops.toArray true).wpIn Fence.wide n P Q a w := by
  simp only [Region.lexTailB, Bool.and_eq_true, decide_eq_true_eq] at hB
  obtain ⟨⟨⟨⟨hsel, hn⟩, hs⟩, hc⟩, hlex⟩ := hB
  have hn' : k < ops.length := by simpa using hn
  have htl : (ops.take k).length = k := by simp; omega
  have hdl : (ops.drop k).length = ops.toArray.size - k := by simp
  have inv0 : HeadInv .any ops.toArray k (Array.replicate ops.toArray.size false) :=
    ⟨by simp, fun j oj _ hl => (by rw [getD_replicate_false] at hl; cases hl), fun t _ ht => getD_in (by simpa using ht) (getD_replicate_false _ _)⟩
  have H := wpAnyL_lex (md := .any) (g := ops.toArray.size - k) hsel hs hc hn (ops.take k) 0 _ a (fun j hj => by
    have hj' : j < k := by rw [htl] at hj; exact hj
    simp [hj']) (by simpa using htl) inv0 (by rw [htl]; exact hlex) h
  refine wpW_any hm hd ?_
  have := wpAny_of_head (Q' := noOut Q) (g := ops.toArray.size - k) (fun listed a' hL => by
    have := wpAny_of_seq (md := .any) (Q' := noOut Q) (ops.drop k) k listed a' { w with drawn := w.drawn + 1 } (fun j => by simp [List.getElem?_drop]) (by rw [hdl]; exact hL.1) hL.2
    rwa [hdl] at this) _ _ _ H
  rw [htl, show k + (ops.toArray.size - k) = ops.toArray.size by omega] at this
  exact this
end
end Go.DC

/- A region with a drawn order: the operations that only read, in a chosen order, then the rest in its order. -/
namespace Go.DC
open Go.RowKit
section
variable {P : Program} {md : Region.Mode} {ops : Array Oper} {w : World}
/-- t waits for i, by steps. -/
def waits (md : Region.Mode) (ops : Array Oper) : Nat → Nat → Nat → Bool
  | 0, _, _ => false
  | n + 1, t, i => ((ops[t]?).map fun o => o.after.any fun e => Region.binds md e && (e.on == i || waits md ops n e.on i)).getD false
/-- What is listed has what it waits for listed. -/
def Clo (md : Region.Mode) (ops : Array Oper) (listed : Array Bool) : Prop :=
  ∀ j oj, ops[j]? = some oj → listed.getD j false = true → ∀ e ∈ oj.after, Region.binds md e = true → listed.getD e.on false = true
theorem Clo.set {listed : Array Bool} {i : Nat} (c : Clo md ops listed) (hi : i ∈ Region.ready md ops listed) : Clo md ops (listed.setIfInBounds i true) := by
  obtain ⟨_, oi, hoi, hall⟩ := mem_ready.1 hi
  intro j oj hj hl e he hb
  by_cases hij : i = j
  · subst hij
    have : oj = oi := Option.some.inj (hj.symm.trans hoi)
    subst this
    exact getD_set_true (hall e he hb)
  · rw [getD_set_ne false hij] at hl
    exact getD_set_true (c j oj hj hl e he hb)
theorem Clo.waits {listed : Array Bool} (c : Clo md ops listed) {i : Nat} : ∀ (n t : Nat), (∀ o, ops[t]? = some o → ∀ e ∈ o.after, Region.binds md e = true → listed.getD e.on false = true) → waits md ops n t i = true → listed.getD i false = true
  | 0, _, _, h => by simp [DC.waits] at h
  | n + 1, t, ht, h => by
    cases ho : ops[t]? with
    | none => simp [DC.waits, ho] at h
    | some o =>
      simp only [DC.waits, ho, Option.map_some, Option.getD_some] at h
      obtain ⟨e, he, hb⟩ := Array.any_eq_true'.1 h
      simp only [Bool.and_eq_true, Bool.or_eq_true, beq_iff_eq] at hb
      have h1 := ht o ho e he hb.1
      rcases hb.2 with h2 | h2
      · rw [← h2]; exact h1
      · exact Clo.waits c n e.on (fun o' ho' e' he' hb' => c e.on o' ho' h1 e' he' hb') h2
/-- Only readers are at hand. -/
def wpHd (P : Program) (md : Region.Mode) (ops : Array Oper) (w : World) (hd : Nat → Bool) (L : Array Bool → Act → Prop) : Nat → Array Bool → Act → Prop
  | 0, listed, a => L listed a
  | f + 1, listed, a => Region.ready md ops listed ≠ [] ∧ ∀ i ∈ Region.ready md ops listed, hd i = true ∧ stOp P ops w i (wpHd P md ops w hd L f (listed.setIfInBounds i true)) a
theorem wpAny_of_hd {hd : Nat → Bool} {g : Nat} {L : Array Bool → Act → Prop} {Q' : Exit → Act → World → Prop} (hL : ∀ listed a, L listed a → wpAny P md ops Q' g listed a w) :
    ∀ (f : Nat) (listed : Array Bool) (a : Act), wpHd P md ops w hd L f listed a → wpAny P md ops Q' (f + g) listed a w
  | 0, listed, a, h => by rw [Nat.zero_add]; exact hL _ _ h
  | f + 1, listed, a, h => by
    rw [show f + 1 + g = (f + g) + 1 by omega]
    exact ⟨fun h0 => absurd h0 h.1, fun i hi => wpOp_of_stOp (fun a' h' => wpAny_of_hd hL f _ a' h') (h.2 i hi).2⟩
/-- While a reader of `ord` is left, no writer is at hand. -/
theorem wpHd_first {hd : Nat → Bool} {i : Nat} {oi : Oper} {v : Value} {L : Array Bool → Act → Prop} (hi : ops[i]? = some oi) (hsel : ∀ (j : Nat) (o : Oper) cs b, ops[j]? = some o → o.op ≠ .select cs b)
    (hin : ∀ listed, Clo md ops listed → listed.getD i true = false → ∀ t ∈ Region.ready md ops listed, hd t = true)
    (hdone : ∀ listed a, L listed a → ∀ j ∈ Region.ready md ops listed, hd j = false) :
    ∀ (f : Nat) (listed : Array Bool) (a : Act), Clo md ops listed →
      (∀ j oj, ops[j]? = some oj → j ≠ i → hd j = true → listed.getD j true = false → (∀ e ∈ oj.after, Region.binds md e = true → e.on ≠ i) → oi.apart ops oj = true) →
      i ∈ Region.ready md ops listed → YieldsAt P ops w oi v a →
      wpHd P md ops w hd L f (listed.setIfInBounds i true) (a.put oi.dst v) → wpHd P md ops w hd L (f + 1) listed a := by
  intro f
  induction f with
  | zero =>
    intro listed a inv _ hr hy H
    have hun := (mem_ready.1 hr).1
    refine ⟨fun h => (by rw [h] at hr; cases hr), fun j hj => ?_⟩
    have hjn := hin listed inv hun j hj
    refine ⟨hjn, ?_⟩
    by_cases hji : j = i
    · subst hji; exact hy.stOp hi H
    · have := hdone _ _ H j (ready_mono hj hji)
      rw [hjn] at this
      cases this
  | succ f ih =>
    intro listed a inv hfree hr hy H
    have hun := (mem_ready.1 hr).1
    refine ⟨fun h => (by rw [h] at hr; cases hr), fun j hj => ?_⟩
    have hjn := hin listed inv hun j hj
    refine ⟨hjn, ?_⟩
    by_cases hji : j = i
    · subst hji; exact hy.stOp hi H
    · have h1 := (H.2 j (ready_mono hj hji)).2
      obtain ⟨hjun, oj, hoj, hall⟩ := mem_ready.1 hj
      have hnot : ∀ e ∈ oj.after, Region.binds md e = true → e.on ≠ i := fun e he hb heq => by
        have h1 := hall e he hb
        rw [heq, getD_both hun] at h1
        cases h1
      have h2 := stOp_put hoj (hfree j oj hoj hji hjn hjun hnot) (fun cs b => hsel i oi cs b hi) (fun cs b => hsel j oj cs b hoj) hy h1
      refine stOp_mono (fun a' h3 => ih (listed.setIfInBounds j true) a' (inv.set hj) (fun k ok hk hki hkh hun' hno => hfree k ok hk hki hkh ?_ hno) (ready_mono hr (Ne.symm hji)) h3.1 ?_) h2
      · by_cases hjk : j = k
        · subst hjk; exact hjun
        · rw [getD_set_ne true hjk] at hun'; exact hun'
      · rw [Array.setIfInBounds_comm _ _ hji]
        exact h3.2
/-- i can be taken next among the readers. -/
def freeH (md : Region.Mode) (ops : Array Oper) (hd : Nat → Bool) (listed : Array Bool) (i : Nat) : Bool :=
  match ops[i]? with
  | none => false
  | some oi => (List.range ops.size).all fun j => j == i || !hd j || listed.getD j true || match ops[j]? with
      | some oj => oj.after.any (fun e => Region.binds md e && e.on == i) || oi.apart ops oj
      | none => true
theorem freeH_spec {hd : Nat → Bool} {i : Nat} {oi : Oper} {listed : Array Bool} (hi : ops[i]? = some oi) (h : freeH md ops hd listed i = true) (j : Nat) (oj : Oper)
    (hj : ops[j]? = some oj) (hne : j ≠ i) (hh : hd j = true) (hun : listed.getD j true = false) (hno : ∀ e ∈ oj.after, Region.binds md e = true → e.on ≠ i) : oi.apart ops oj = true := by
  simp only [freeH, hi, List.all_eq_true, List.mem_range] at h
  have h1 := h j (Array.getElem?_eq_some_iff.1 hj).1
  simp only [hj, hh, Bool.not_true, Bool.or_eq_true, beq_iff_eq, hne, false_or, hun, Bool.false_eq_true] at h1
  rcases h1 with h1 | h1
  · obtain ⟨e, he, hb⟩ := Array.any_eq_true'.1 h1
    simp only [Bool.and_eq_true, beq_iff_eq] at hb
    exact absurd hb.2 (hno e he hb.1)
  · exact h1
/-- The chosen order, then the rest from g in a chain. -/
def ordB (md : Region.Mode) (ops : Array Oper) (hd : Nat → Bool) (g : Nat) : List Nat → Array Bool → Bool
  | [], listed => (Region.ready md ops listed).all (fun j => !hd j) && Region.seqB md ops (ops.size - g) g listed
  | k :: r, listed => (Region.ready md ops listed).contains k && freeH md ops hd listed k && (List.range ops.size).all (fun t => hd t || waits md ops 4 t k) && ordB md ops hd g r (listed.setIfInBounds k true)
theorem wpHd_ord {hd : Nat → Bool} {g : Nat} {Lq : Act → Prop} (hsel : Region.noSelect ops = true) :
    ∀ (ord : List Nat) (l : List Oper) (listed : Array Bool) (a : Act), ord.map (ops[·]?) = l.map some → Clo md ops listed → ordB md ops hd g ord listed = true → wpStill P ops w Lq l a →
    wpHd P md ops w hd (fun listed' a' => ((Region.ready md ops listed').all (fun j => !hd j) = true ∧ Region.seqB md ops (ops.size - g) g listed' = true) ∧ Lq a') ord.length listed a
  | [], [], listed, a, _, _, hB, h => ⟨by simpa [ordB] using hB, h⟩
  | [], _ :: _, _, _, hm, _, _, _ => by simp at hm
  | _ :: _, [], _, _, hm, _, _, _ => by simp at hm
  | k :: r, o :: l, listed, a, hm, c, hB, h => by
    simp only [List.map_cons, List.cons.injEq] at hm
    obtain ⟨h0, hm⟩ := hm
    simp only [ordB, Bool.and_eq_true] at hB
    obtain ⟨⟨⟨hr, hf⟩, hw⟩, hB'⟩ := hB
    have hr' : k ∈ Region.ready md ops listed := by simpa using hr
    have hst : stOp P ops w k (wpStill P ops w Lq l) a := by unfold stOp; simp only [h0]; exact h
    obtain ⟨v, hy, hK⟩ := yieldsAt_of_stOp h0 hst
    refine wpHd_first h0 (Region.noSelect_spec hsel) (fun listed' c' hun t ht => ?_) (fun listed' a' hL j hj => by simpa using List.all_eq_true.1 hL.1.1 j hj) r.length listed a c (freeH_spec h0 hf) hr' hy
      (wpHd_ord hsel r l _ _ hm (c.set hr') hB' hK)
    obtain ⟨_, ot, hot, hall⟩ := mem_ready.1 ht
    have h2 := List.all_eq_true.1 hw t (List.mem_range.2 (Array.getElem?_eq_some_iff.1 hot).1)
    simp only [Bool.or_eq_true] at h2
    rcases h2 with h2 | h2
    · exact h2
    · have h3 := c'.waits 4 t (fun o' ho' e he hb => by
        have : o' = ot := Option.some.inj (ho'.symm.trans hot)
        subst this
        exact hall e he hb) h2
      rw [getD_both hun] at h3
      cases h3
def cloB (md : Region.Mode) (ops : Array Oper) (listed : Array Bool) : Bool :=
  (List.range ops.size).all fun j => ((ops[j]?).map fun o => !listed.getD j false || o.after.all fun e => !Region.binds md e || listed.getD e.on false).getD true
theorem cloB_spec {listed : Array Bool} (h : cloB md ops listed = true) : Clo md ops listed := fun j oj hj hl e he hb => by
  have h1 := List.all_eq_true.1 h j (List.mem_range.2 (Array.getElem?_eq_some_iff.1 hj).1)
  simp only [hj, Option.map_some, Option.getD_some, hl, Bool.not_true, Bool.false_or, Array.all_eq_true_iff_forall_mem] at h1
  have := h1 e he
  simpa [hb] using this
theorem wpAny_ord {hd : Nat → Bool} {Q : Exit → Act → World → Prop} {l t : List Oper} {listed : Array Bool} {a : Act} {fuel : Nat} (g : Nat) (ord : List Nat) (hsel : Region.noSelect ops = true) (hf : ord.length + t.length = fuel) (hts : t.length = ops.size - g) (ht : ops.toList.drop g = t)
    (hm : ord.map (ops[·]?) = l.map some) (c : cloB md ops listed = true) (hB : ordB md ops hd g ord listed = true) (h : wpStill P ops w (fun a' => wpList P ops Q t a' w) l a) : wpAny P md ops Q fuel listed a w := by
  subst hf
  refine wpAny_of_hd (fun listed' a' hL => wpAny_of_seq t g listed' a' w (fun j => ?_) (by rw [hts]; exact hL.1.2) hL.2) _ _ _ (wpHd_ord hsel ord l listed a hm (cloB_spec c) hB h)
  rw [← ht]
  simp [List.getElem?_drop]
theorem wpAny_ordL {hd : Nat → Bool} {Q : Exit → Act → World → Prop} {ops : List Oper} {listed : Array Bool} {a : Act} {fuel : Nat} (g : Nat) (ord : List Nat) (hds : List Oper → List Oper) (hsel : Region.noSelect ops.toArray = true) (hf : ord.length + (ops.toArray.size - g) = fuel)
    (hm : ord.map (ops.toArray[·]?) = (hds ops).map some) (c : cloB md ops.toArray listed = true) (hB : ordB md ops.toArray hd g ord listed = true) (h : wpStill P ops.toArray w (fun a' => wpList P ops.toArray Q (ops.drop g) a' w) (hds ops) a) : wpAny P md ops.toArray Q fuel listed a w :=
  wpAny_ord g ord hsel (by rw [← hf]; simp) (by simp) (by simp) hm c hB h
end
end Go.DC

/- Pieces of a function's body, found by their place. No conditions. -/
namespace Go.DC
open Go.RowKit
/-- The body of the first loop over a function. -/
def rangeBody : Code → Option Code
  | .rangeFunc _ _ _ b => some b
  | .seq a b => match rangeBody a with
    | some c => some c
    | none => rangeBody b
  | .block _ c => rangeBody c
  | .scope c => rangeBody c
  | .cond _ a b => match rangeBody a with
    | some c => some c
    | none => rangeBody b
  | _ => none
/-- The body of the first plain loop that is in no other. -/
def loopBody : Code → Option Code
  | .loop c => some c
  | .seq a b => match loopBody a with
    | some c => some c
    | none => loopBody b
  | .block _ c => loopBody c
  | .scope c => loopBody c
  | .cond _ a b => match loopBody a with
    | some c => some c
    | none => loopBody b
  | _ => none
/-- The region of a number. -/
def regionAt (n : Nat) : Code → Option Code
  | .region k ops d => bif k == n then some (.region k ops d) else none
  | .seq a b => match regionAt n a with
    | some c => some c
    | none => regionAt n b
  | .block _ c => regionAt n c
  | .loop c => regionAt n c
  | .scope c => regionAt n c
  | .rangeFunc _ _ c d => match regionAt n c with
    | some e => some e
    | none => regionAt n d
  | .cond _ a b => match regionAt n a with
    | some c => some c
    | none => regionAt n b
  | _ => none
/-- The code is another's. -/
theorem code_to {F : Fence} {n : Nat} {P : Program} {Q : Exit → Act → World → Prop} {a : Act} {w : World} {c c' : Code} (e : c = c') (h : c'.wpIn F n P Q a w) : c.wpIn F n P Q a w := by rw [e]; exact h
end Go.DC
