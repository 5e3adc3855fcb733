/- A region with a drawn order: the operations that only read, in a chosen order, then the rest in its order. -/
import Derived.Test.YtelcdjbbcffliaaRoundKit
import Derived.StillTail
namespace Go.DC
open Go.RowKit
section
variable {P : Program} {md : Region.Mode} {ops : Array Oper} {w : World}
/-- t waits for i, by steps. -/
def waits (md : Region.Mode) (ops : Array Oper) : Nat → Nat → Nat → Bool
  | 0, _, _ => false
  | n + 1, t, i => ((ops[t]?).map fun o => o.after.any fun e => Region.binds md e && (e.on == i || waits md ops n e.on i)).getD false
/-- What is listed has what it waits for listed. -/
def Clo (md : Region.Mode) (ops : Array Oper) (listed : Array Bool) : Prop :=
  ∀ j oj, ops[j]? = some oj → listed.getD j false = true → ∀ e ∈ oj.after, Region.binds md e = true → listed.getD e.on false = true
theorem Clo.set {listed : Array Bool} {i : Nat} (c : Clo md ops listed) (hi : i ∈ Region.ready md ops listed) : Clo md ops (listed.setIfInBounds i true) := by
  obtain ⟨_, oi, hoi, hall⟩ := mem_ready.1 hi
  intro j oj hj hl e he hb
  by_cases hij : i = j
  · subst hij
    have : oj = oi := Option.some.inj (hj.symm.trans hoi)
    subst this
    exact getD_set_true (hall e he hb)
  · rw [getD_set_ne false hij] at hl
    exact getD_set_true (c j oj hj hl e he hb)
theorem Clo.waits {listed : Array Bool} (c : Clo md ops listed) {i : Nat} : ∀ (n t : Nat), (∀ o, ops[t]? = some o → ∀ e ∈ o.after, Region.binds md e = true → listed.getD e.on false = true) → waits md ops n t i = true → listed.getD i false = true
  | 0, _, _, h => by simp [DC.waits] at h
  | n + 1, t, ht, h => by
    cases ho : ops[t]? with
    | none => simp [DC.waits, ho] at h
    | some o =>
      simp only [DC.waits, ho, Option.map_some, Option.getD_some] at h
      obtain ⟨e, he, hb⟩ := Array.any_eq_true'.1 h
      simp only [Bool.and_eq_true, Bool.or_eq_true, beq_iff_eq] at hb
      have h1 := ht o ho e he hb.1
      rcases hb.2 with h2 | h2
      · rw [← h2]; exact h1
      · exact Clo.waits c n e.on (fun o' ho' e' he' hb' => c e.on o' ho' h1 e' he' hb') h2
/-- Only readers are at hand. -/
def wpHd (P : Program) (md : Region.Mode) (ops : Array Oper) (w : World) (hd : Nat → Bool) (L : Array Bool → Act → Prop) : Nat → Array Bool → Act → Prop
  | 0, listed, a => L listed a
  | f + 1, listed, a => Region.ready md ops listed ≠ [] ∧ ∀ i ∈ Region.ready md ops listed, hd i = true ∧ stOp P ops w i (wpHd P md ops w hd L f (listed.setIfInBounds i true)) a
theorem wpAny_of_hd {hd : Nat → Bool} {g : Nat} {L : Array Bool → Act → Prop} {Q' : Exit → Act → World → Prop} (hL : ∀ listed a, L listed a → wpAny P md ops Q' g listed a w) :
    ∀ (f : Nat) (listed : Array Bool) (a : Act), wpHd P md ops w hd L f listed a → wpAny P md ops Q' (f + g) listed a w
  | 0, listed, a, h => by rw [Nat.zero_add]; exact hL _ _ h
  | f + 1, listed, a, h => by
    rw [show f + 1 + g = (f + g) + 1 by omega]
    exact ⟨fun h0 => absurd h0 h.1, fun i hi => wpOp_of_stOp (fun a' h' => wpAny_of_hd hL f _ a' h') (h.2 i hi).2⟩
/-- While a reader of `ord` is left, no writer is at hand. -/
theorem wpHd_first {hd : Nat → Bool} {i : Nat} {oi : Oper} {v : Value} {L : Array Bool → Act → Prop} (hi : ops[i]? = some oi) (hsel : ∀ (j : Nat) (o : Oper) cs b, ops[j]? = some o → o.op ≠ .select cs b)
    (hin : ∀ listed, Clo md ops listed → listed.getD i true = false → ∀ t ∈ Region.ready md ops listed, hd t = true)
    (hdone : ∀ listed a, L listed a → ∀ j ∈ Region.ready md ops listed, hd j = false) :
    ∀ (f : Nat) (listed : Array Bool) (a : Act), Clo md ops listed →
      (∀ j oj, ops[j]? = some oj → j ≠ i → hd j = true → listed.getD j true = false → (∀ e ∈ oj.after, Region.binds md e = true → e.on ≠ i) → oi.apart ops oj = true) →
      i ∈ Region.ready md ops listed → YieldsAt P ops w oi v a →
      wpHd P md ops w hd L f (listed.setIfInBounds i true) (a.put oi.dst v) → wpHd P md ops w hd L (f + 1) listed a := by
  intro f
  induction f with
  | zero =>
    intro listed a inv _ hr hy H
    have hun := (mem_ready.1 hr).1
    refine ⟨fun h => (by rw [h] at hr; cases hr), fun j hj => ?_⟩
    have hjn := hin listed inv hun j hj
    refine ⟨hjn, ?_⟩
    by_cases hji : j = i
    · subst hji; exact hy.stOp hi H
    · have := hdone _ _ H j (ready_mono hj hji)
      rw [hjn] at this
      cases this
  | succ f ih =>
    intro listed a inv hfree hr hy H
    have hun := (mem_ready.1 hr).1
    refine ⟨fun h => (by rw [h] at hr; cases hr), fun j hj => ?_⟩
    have hjn := hin listed inv hun j hj
    refine ⟨hjn, ?_⟩
    by_cases hji : j = i
    · subst hji; exact hy.stOp hi H
    · have h1 := (H.2 j (ready_mono hj hji)).2
      obtain ⟨hjun, oj, hoj, hall⟩ := mem_ready.1 hj
      have hnot : ∀ e ∈ oj.after, Region.binds md e = true → e.on ≠ i := fun e he hb heq => by
        have h1 := hall e he hb
        rw [heq, getD_both hun] at h1
        cases h1
      have h2 := stOp_put hoj (hfree j oj hoj hji hjn hjun hnot) (fun cs b => hsel i oi cs b hi) (fun cs b => hsel j oj cs b hoj) hy h1
      refine stOp_mono (fun a' h3 => ih (listed.setIfInBounds j true) a' (inv.set hj) (fun k ok hk hki hkh hun' hno => hfree k ok hk hki hkh ?_ hno) (ready_mono hr (Ne.symm hji)) h3.1 ?_) h2
      · by_cases hjk : j = k
        · subst hjk; exact hjun
        · rw [getD_set_ne true hjk] at hun'; exact hun'
      · rw [Array.setIfInBounds_comm _ _ hji]
        exact h3.2
/-- i can be taken next among the readers. -/
def freeH (md : Region.Mode) (ops : Array Oper) (hd : Nat → Bool) (listed : Array Bool) (i : Nat) : Bool :=
  match ops[i]? with
  | none => false
  | some oi => (List.range ops.size).all fun j => j == i || !hd j || listed.getD j true || match ops[j]? with
      | some oj => oj.after.any (fun e => Region.binds md e && e.on == i) || oi.apart ops oj
      | none => true
theorem freeH_spec {hd : Nat → Bool} {i : Nat} {oi : Oper} {listed : Array Bool} (hi : ops[i]? = some oi) (h : freeH md ops hd listed i = true) (j : Nat) (oj : Oper)
    (hj : ops[j]? = some oj) (hne : j ≠ i) (hh : hd j = true) (hun : listed.getD j true = false) (hno : ∀ e ∈ oj.after, Region.binds md e = true → e.on ≠ i) : oi.apart ops oj = true := by
  simp only [freeH, hi, List.all_eq_true, List.mem_range] at h
  have h1 := h j (Array.getElem?_eq_some_iff.1 hj).1
  simp only [hj, hh, Bool.not_true, Bool.or_eq_true, beq_iff_eq, hne, false_or, hun, Bool.false_eq_true] at h1
  rcases h1 with h1 | h1
  · obtain ⟨e, he, hb⟩ := Array.any_eq_true'.1 h1
    simp only [Bool.and_eq_true, beq_iff_eq] at hb
    exact absurd hb.2 (hno e he hb.1)
  · exact h1
/-- The chosen order, then the rest from g in a chain. -/
def ordB (md : Region.Mode) (ops : Array Oper) (hd : Nat → Bool) (g : Nat) : List Nat → Array Bool → Bool
  | [], listed => (Region.ready md ops listed).all (fun j => !hd j) && Region.seqB md ops (ops.size - g) g listed
  | k :: r, listed => (Region.ready md ops listed).contains k && freeH md ops hd listed k && (List.range ops.size).all (fun t => hd t || waits md ops 4 t k) && ordB md ops hd g r (listed.setIfInBounds k true)
theorem wpHd_ord {hd : Nat → Bool} {g : Nat} {Lq : Act → Prop} (hsel : Region.noSelect ops = true) :
    ∀ (ord : List Nat) (l : List Oper) (listed : Array Bool) (a : Act), ord.map (ops[·]?) = l.map some → Clo md ops listed → ordB md ops hd g ord listed = true → wpStill P ops w Lq l a →
    wpHd P md ops w hd (fun listed' a' => ((Region.ready md ops listed').all (fun j => !hd j) = true ∧ Region.seqB md ops (ops.size - g) g listed' = true) ∧ Lq a') ord.length listed a
  | [], [], listed, a, _, _, hB, h => ⟨by simpa [ordB] using hB, h⟩
  | [], _ :: _, _, _, hm, _, _, _ => by simp at hm
  | _ :: _, [], _, _, hm, _, _, _ => by simp at hm
  | k :: r, o :: l, listed, a, hm, c, hB, h => by
    simp only [List.map_cons, List.cons.injEq] at hm
    obtain ⟨h0, hm⟩ := hm
    simp only [ordB, Bool.and_eq_true] at hB
    obtain ⟨⟨⟨hr, hf⟩, hw⟩, hB'⟩ := hB
    have hr' : k ∈ Region.ready md ops listed := by simpa using hr
    have hst : stOp P ops w k (wpStill P ops w Lq l) a := by unfold stOp; simp only [h0]; exact h
    obtain ⟨v, hy, hK⟩ := yieldsAt_of_stOp h0 hst
    refine wpHd_first h0 (Region.noSelect_spec hsel) (fun listed' c' hun t ht => ?_) (fun listed' a' hL j hj => by simpa using List.all_eq_true.1 hL.1.1 j hj) r.length listed a c (freeH_spec h0 hf) hr' hy
      (wpHd_ord hsel r l _ _ hm (c.set hr') hB' hK)
    obtain ⟨_, ot, hot, hall⟩ := mem_ready.1 ht
    have h2 := List.all_eq_true.1 hw t (List.mem_range.2 (Array.getElem?_eq_some_iff.1 hot).1)
    simp only [Bool.or_eq_true] at h2
    rcases h2 with h2 | h2
    · exact h2
    · have h3 := c'.waits 4 t (fun o' ho' e he hb => by
        have : o' = ot := Option.some.inj (ho'.symm.trans hot)
        subst this
        exact hall e he hb) h2
      rw [getD_both hun] at h3
      cases h3
def cloB (md : Region.Mode) (ops : Array Oper) (listed : Array Bool) : Bool :=
  (List.range ops.size).all fun j => ((ops[j]?).map fun o => !listed.getD j false || o.after.all fun e => !Region.binds md e || listed.getD e.on false).getD true
theorem cloB_spec {listed : Array Bool} (h : cloB md ops listed = true) : Clo md ops listed := fun j oj hj hl e he hb => by
  have h1 := List.all_eq_true.1 h j (List.mem_range.2 (Array.getElem?_eq_some_iff.1 hj).1)
  simp only [hj, Option.map_some, Option.getD_some, hl, Bool.not_true, Bool.false_or, Array.all_eq_true_iff_forall_mem] at h1
  have := h1 e he
  simpa [hb] using this
theorem wpAny_ord {hd : Nat → Bool} {Q : Exit → Act → World → Prop} {l t : List Oper} {listed : Array Bool} {a : Act} {fuel : Nat} (g : Nat) (ord : List Nat) (hsel : Region.noSelect ops = true) (hf : ord.length + t.length = fuel) (hts : t.length = ops.size - g) (ht : ops.toList.drop g = t)
    (hm : ord.map (ops[·]?) = l.map some) (c : cloB md ops listed = true) (hB : ordB md ops hd g ord listed = true) (h : wpStill P ops w (fun a' => wpList P ops Q t a' w) l a) : wpAny P md ops Q fuel listed a w := by
  subst hf
  refine wpAny_of_hd (fun listed' a' hL => wpAny_of_seq t g listed' a' w (fun j => ?_) (by rw [hts]; exact hL.1.2) hL.2) _ _ _ (wpHd_ord hsel ord l listed a hm (cloB_spec c) hB h)
  rw [← ht]
  simp [List.getElem?_drop]
theorem wpAny_ordL {hd : Nat → Bool} {Q : Exit → Act → World → Prop} {ops : List Oper} {listed : Array Bool} {a : Act} {fuel : Nat} (g : Nat) (ord : List Nat) (hds : List Oper → List Oper) (hsel : Region.noSelect ops.toArray = true) (hf : ord.length + (ops.toArray.size - g) = fuel)
    (hm : ord.map (ops.toArray[·]?) = (hds ops).map some) (c : cloB md ops.toArray listed = true) (hB : ordB md ops.toArray hd g ord listed = true) (h : wpStill P ops.toArray w (fun a' => wpList P ops.toArray Q (ops.drop g) a' w) (hds ops) a) : wpAny P md ops.toArray Q fuel listed a w :=
  wpAny_ord g ord hsel (by rw [← hf]; simp) (by simp) (by simp) hm c hB h
end
end Go.DC
