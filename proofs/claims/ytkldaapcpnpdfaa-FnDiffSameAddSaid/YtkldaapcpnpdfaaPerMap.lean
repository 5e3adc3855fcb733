/- The map of persons to counts: what its three operations do. -/
import Derived.Test.YtkldaapcpnpdfaaPeople2
import Derived.RangeFuncRecord
import Derived.WideKeyEntry
namespace Go.Proofs.Ytkldaapcpnpdfaa
open Go.RowKit Go.DC
def ents : List (Per × Int) → Nat → List MapEntry
  | [], _ => []
  | (p, n) :: l, i => { key := p.val, val := .int .i64 n, born := i } :: ents l (i + 1)

def look : List (Per × Int) → Per → Int
  | [], _ => 0
  | (q, n) :: l, p => if p = q then n else look l p
def posn : List (Per × Int) → Per → Nat
  | [], _ => 0
  | (q, _) :: l, p => if p = q then 0 else posn l p + 1
def has : List (Per × Int) → Per → Bool
  | [], _ => false
  | (q, _) :: l, p => if p = q then true else has l p
def ins (l : List (Per × Int)) (p : Per) : List (Per × Int) := if has l p then l else l ++ [(p, 0)]
def setP : List (Per × Int) → Per → Int → List (Per × Int)
  | [], _, _ => []
  | (q, n) :: l, p, m => if p = q then (q, m) :: l else (q, n) :: setP l p m

def IsMap (w : World) (b : Nat) (l : List (Per × Int)) : Prop := w.heap[b]? = some (.map (ents l 0).toArray l.length)

theorem ents_length : ∀ (l : List (Per × Int)) (i : Nat), (ents l i).length = l.length
  | [], _ => rfl
  | (p, n) :: l, i => by simp [ents, ents_length l (i + 1)]
theorem posn_le : ∀ (l : List (Per × Int)) (p : Per), posn l p ≤ l.length
  | [], _ => by simp [posn]
  | (q, n) :: l, p => by simp only [posn]; split; omega; have := posn_le l p; simp; omega
theorem posn_lt : ∀ (l : List (Per × Int)) (p : Per), has l p = true → posn l p < l.length
  | [], _, h => by simp [has] at h
  | (q, n) :: l, p, h => by
    simp only [posn, has] at *; split at h
    · rename_i e; rw [if_pos e]; simp
    · rename_i e; rw [if_neg e]; have := posn_lt l p h; simp; omega
theorem ents_append : ∀ (l m : List (Per × Int)) (i : Nat), ents (l ++ m) i = ents l i ++ ents m (i + l.length)
  | [], m, i => by simp [ents]
  | (p, n) :: l, m, i => by simp only [List.cons_append, ents, ents_append l m (i + 1), List.length_cons]; congr 3; omega
theorem ents_posn : ∀ (l : List (Per × Int)) (p : Per) (i : Nat), has l p = true → (ents l i)[posn l p]? = some { key := p.val, val := .int .i64 (look l p), born := i + posn l p }
  | [], _, _, h => by simp [has] at h
  | (q, n) :: l, p, i, h => by
    simp only [has, posn, look, ents] at *
    by_cases e : p = q
    · subst e; simp
    · rw [if_neg e] at h ⊢; rw [if_neg e]
      have := ents_posn l p (i + 1) h
      simp only [List.getElem?_cons_succ, this]; congr 2; omega
theorem ents_set : ∀ (l : List (Per × Int)) (p : Per) (i : Nat) (m : Int), has l p = true → (ents l i).modify (posn l p) (fun e => { e with val := .int .i64 m }) = ents (setP l p m) i
  | [], _, _, _, h => by simp [has] at h
  | (q, n) :: l, p, i, m, h => by
    simp only [has, posn, setP, ents] at *
    by_cases e : p = q
    · subst e; simp [ents]
    · rw [if_neg e] at h ⊢; rw [if_neg e]
      simp [ents, ents_set l p (i + 1) m h]
theorem setP_length : ∀ (l : List (Per × Int)) (p : Per) (m : Int), (setP l p m).length = l.length
  | [], _, _ => rfl
  | (q, n) :: l, p, m => by simp only [setP]; split <;> simp [setP_length l p m]
theorem look_none : ∀ (l : List (Per × Int)) (p : Per), has l p = false → look l p = 0
  | [], _, _ => rfl
  | (q, n) :: l, p, h => by
    simp only [has, look] at *
    split at h
    · cases h
    · rename_i e; rw [if_neg e]; exact look_none l p h
theorem look_app : ∀ (l : List (Per × Int)) (p q : Per), look (l ++ [(p, 0)]) q = look l q
  | [], p, q => by simp [look]
  | (r, n) :: l, p, q => by simp only [List.cons_append, look, look_app l p q]
theorem look_ins (l : List (Per × Int)) (p q : Per) : look (ins l p) q = look l q := by
  unfold ins; split
  · rfl
  · exact look_app l p q
theorem has_app : ∀ (l : List (Per × Int)) (p : Per), has (l ++ [(p, 0)]) p = true
  | [], p => by simp [has]
  | (r, n) :: l, p => by simp only [List.cons_append, has]; split; rfl; exact has_app l p
theorem has_ins (l : List (Per × Int)) (p : Per) : has (ins l p) p = true := by
  unfold ins; split
  · assumption
  · exact has_app l p
theorem posn_none : ∀ (l : List (Per × Int)) (p : Per), has l p = false → posn (l ++ [(p, 0)]) p = l.length
  | [], p, _ => by simp [posn]
  | (r, n) :: l, p, h => by
    simp only [has] at h
    split at h
    · cases h
    · rename_i e
      simp only [List.cons_append, posn, List.length_cons]; rw [if_neg e, posn_none l p h]
theorem look_setP : ∀ (l : List (Per × Int)) (p q : Per) (m : Int), has l p = true → look (setP l p m) q = if q = p then m else look l q
  | [], _, _, _, h => by simp [has] at h
  | (r, n) :: l, p, q, m, h => by
    simp only [has, setP] at *
    by_cases e : p = r
    · subst e; simp only [if_true, look]; split <;> rfl
    · rw [if_neg e] at h ⊢
      simp only [look, look_setP l p q m h]
      by_cases e2 : q = r
      · subst e2; rw [if_pos rfl, if_neg (fun h => e h.symm), if_pos rfl]
      · rw [if_neg e2, if_neg e2]

theorem modify_id {α : Type} (f : α → α) : ∀ (l : List α) (i : Nat), (∀ x, l[i]? = some x → f x = x) → l.modify i f = l
  | [], i, _ => by cases i <;> rfl
  | a :: l, 0, h => by simp [h a rfl]
  | a :: l, i + 1, h => by simp only [List.modify_succ_cons]; rw [modify_id f l i (fun x hx => h x (by simpa using hx))]

theorem ents_born : ∀ (l : List (Per × Int)) (i : Nat), (ents l i).map (·.born) = List.range' i l.length
  | [], _ => rfl
  | (p, n) :: l, i => by simp [ents, ents_born l (i + 1), List.range'_succ]
theorem ents_nodup (l : List (Per × Int)) (i : Nat) : ((ents l i).map (·.born)).Nodup := by rw [ents_born]; exact List.nodup_range'

/-! ### The operations -/
theorem run_equal_per (p q : Per) (w : World) : (Op.equal 36 p.val q.val).run Try.prog w = .ok (decide (p = q)) w := by
  have h := run_eql_per p q w
  simp only [binOp] at h
  unfold Op.equal
  unfold Per.val
  simp [Op.equal, Op.maxDepth] at h ⊢
  generalize hr : (Op.equalIn 10000 36 _ _).run Try.prog w = r at h ⊢
  cases r with
  | ok b w1 => simpa using h
  | halt x w1 => simp [Result.andThen] at h

theorem run_findAsking (p : Per) (w : World) : ∀ (l : List (Per × Int)) (i j : Nat), (Instr.findAsking 36 p.val (ents l i) j).run Try.prog w = .ok (if has l p then some (j + posn l p, .int .i64 (look l p)) else none) w
  | [], i, j => by simp [ents, Instr.findAsking, has]
  | (q, n) :: l, i, j => by
    simp only [ents, Instr.findAsking, Sem.run_bind, run_equal_per, Result.andThen_ok, has, posn, look]
    by_cases e : p = q
    · subst e; simp
    · simp only [e, decide_false, Bool.false_eq_true, if_false]
      rw [run_findAsking p w l (i + 1) (j + 1)]
      split
      · congr 3; omega
      · rfl

theorem run_findKey (p : Per) (w : World) (l : List (Per × Int)) (i : Nat) : (Instr.findKey 36 p.val (ents l i)).run Try.prog w = .ok (if has l p then some (posn l p, .int .i64 (look l p)) else none) w := by
  have hu : ∃ d, Try.prog.underlying 36 = some (.struct d) := ⟨_, Try.underlying36⟩
  obtain ⟨d, hu⟩ := hu
  unfold Instr.findKey
  simp only [Sem.run_bind, run_underlying hu, Result.andThen_ok]
  cases l with
  | nil => simp [ents, Instr.findNow, has]
  | cons x l =>
    obtain ⟨q, n⟩ := x
    have h0 : Instr.findNow (.struct d) p.val (ents ((q, n) :: l) i) 0 = none := by simp [ents, Instr.findNow, Instr.sameNow]
    rw [h0]
    simp only []
    rw [run_findAsking p w ((q, n) :: l) i 0]
    simp

theorem run_checkPer (em : Bool) (p : Per) (w : World) : (Instr.checkKey em 10000 36 p.val).run Try.prog w = .ok () w := by
  obtain ⟨a, b, c, d⟩ := p
  kernel_rfl

theorem run_lookPer (p : Per) (w : World) (b : Nat) (l : List (Per × Int)) (hb : IsMap w b l) :
    (Instr.lookup 51 (.map (some b)) p.val false).run Try.prog w = .ok (.int .i64 (look l p)) w := by
  unfold Instr.lookup
  have hu : Try.prog.underlying 51 = some (.map 36 3) := Try.underlying51
  have hz : (zeroValue 3).run Try.prog w = .ok (.int .i64 0) w := by kernel_rfl
  have hg := MapKept.run_getObj_map (P := Try.prog) hb
  simp only [Sem.run_bind, run_underlying hu, Result.andThen_ok, hg, Sem.run_pure, run_checkPer, run_findKey]
  cases h : has l p
  · simp [hz, look_none l p h]
  · simp

theorem IsMap.put {w : World} {b : Nat} {l l' : List (Per × Int)} (h : IsMap w b l) : IsMap (w.putObj b (.map (ents l' 0).toArray l'.length)) b l' := by
  unfold IsMap
  refine World.putObj_heap_same ?_
  obtain ⟨hlt, _⟩ := Array.getElem?_eq_some_iff.1 h
  exact hlt

theorem run_entryPer (p : Per) (w : World) (b : Nat) (l : List (Per × Int)) (hb : IsMap w b l) :
    (Instr.mapEntry 51 (.map (some b)) p.val).run Try.prog w = .ok (.tuple #[.int .i64 (look l p), .int .i64 (posn (ins l p) p)]) (w.putObj b (.map (ents (ins l p) 0).toArray (ins l p).length)) := by
  unfold Instr.mapEntry
  have hu : Try.prog.underlying 51 = some (.map 36 3) := Try.underlying51
  have hz : (zeroValue 3).run Try.prog w = .ok (.int .i64 0) w := by kernel_rfl
  have hg := MapKept.run_getObj_map (P := Try.prog) hb
  simp only [Sem.run_bind, run_underlying hu, Result.andThen_ok, hg, run_checkPer, run_findKey]
  cases h : has l p
  · have hi : ins l p = l ++ [(p, 0)] := by simp [ins, h]
    have hs := fun o => MapKept.run_setObj_map (P := Try.prog) o hb
    simp only [Bool.false_eq_true, if_false, Sem.run_bind, hz, Result.andThen_ok, hs, Sem.run_pure, look_none l p h, hi, posn_none l p h, goInt]
    congr 2
    · rw [ents_append]; simp [ents]
  · have hi : ins l p = l := by simp [ins, h]
    have hp := ents_posn l p 0 h
    have hs := fun o => MapKept.run_setObj_map (P := Try.prog) o hb
    have hst : (Instr.keyThatStays p.val p.val).run Try.prog w = .ok p.val w := by
      unfold Instr.keyThatStays
      have : Instr.sameBits 10000 p.val p.val = true := by
        unfold Per.val
        simp [Instr.sameBits]
      rw [this]; simp
    simp [hp, hst, hs, hi, goInt]
    have hmod : (ents l 0).modify (posn l p) (fun e => { e with key := p.val }) = ents l 0 := modify_id _ _ _ (fun x hx => by rw [hp] at hx; cases hx; rfl)
    rw [hmod]
    rfl

/-- 'left[p] = m' behind the entry. -/
theorem run_storePer (p : Per) (m : Int) (w : World) (b : Nat) (l : List (Per × Int)) (hb : IsMap w b l) (hh : has l p = true) :
    (Instr.entryStore 51 (.map (some b)) (.int .i64 (posn l p)) (.int .i64 m)).run Try.prog w = .ok () (w.putObj b (.map (ents (setP l p m) 0).toArray (setP l p m).length)) := by
  unfold Instr.entryStore
  have hg := MapKept.run_getObj_map (P := Try.prog) hb
  have hs := fun o => MapKept.run_setObj_map (P := Try.prog) o hb
  have hf : (ents l 0).findIdx? (fun e => ((e.born : Nat) : Int) == ((posn l p : Nat) : Int)) = some (posn l p) := by
    have hp := ents_posn l p 0 hh
    have := WideElems.findIdx_born (l := ents l 0) (ents_nodup l 0) hp
    simpa using this
  have ha : (asIntOf (Value.int IntKind.i64 (posn l p : Nat))).run Try.prog w = .ok (.i64, ((posn l p : Nat) : Int)) w := by simp [asIntOf]
  simp [hg, asInt, ha, hf, hs]
  rw [ents_set l p 0 m hh, setP_length]
  rfl

theorem IsMap.of_block {w w' : World} {b : Nat} {l : List (Per × Int)} (h : IsMap w b l) (e : w'.heap[b]? = w.heap[b]?) : IsMap w' b l := e.trans h
theorem IsMap.lt {w : World} {b : Nat} {l : List (Per × Int)} (h : IsMap w b l) : b < w.heap.size := (Array.getElem?_eq_some_iff.1 h).1
theorem IsMap.alloc {w : World} {b : Nat} {l : List (Per × Int)} (h : IsMap w b l) (o : Obj) : IsMap (w.alloc o) b l := h.of_block (Below.heap_alloc w o b h.lt)
theorem IsMap.drew {w : World} {b : Nat} {l : List (Per × Int)} (h : IsMap w b l) : IsMap w.drew b l := h

/-- The counts of a list of persons. -/
def Counts (l : List (Per × Int)) (r : List Per) : Prop := ∀ p, look l p = r.count p

theorem Counts.inc {l : List (Per × Int)} {r : List Per} (h : Counts l r) (p : Per) : Counts (setP (ins l p) p (look l p + 1)) (p :: r) := fun q => by
  rw [look_setP _ _ _ _ (has_ins l p), look_ins, h p, h q, List.count_cons]
  by_cases e : q = p
  · subst e; simp
  · have : (p == q) = false := by simpa using fun h => e h.symm
    rw [if_neg e, this]; simp
theorem Counts.dec {l : List (Per × Int)} {r : List Per} (h : Counts l r) (p : Per) (hp : p ∈ r) : Counts (setP (ins l p) p (look l p - 1)) (r.erase p) := fun q => by
  rw [look_setP _ _ _ _ (has_ins l p), look_ins, h p, h q]
  by_cases e : q = p
  · subst e; rw [if_pos rfl, List.count_erase_self]; have := List.count_pos_iff.2 hp; omega
  · rw [if_neg e, List.count_erase_of_ne e]

theorem Ext.putObj {a b : World} (h : Ext a b) {l : Nat} (hl : a.heap.size ≤ l) (o : Obj) : Ext a (b.putObj l o) :=
  ⟨h.os, h.tape, h.output, by rw [World.putObj_size]; exact h.size, fun k hk => (World.putObj_heap_other (by omega)).trans (h.block k hk)⟩

theorem look_le {l : List (Per × Int)} {r : List Per} (h : Counts l r) (p : Per) : 0 ≤ look l p ∧ look l p ≤ r.length := by
  rw [h p]; have := List.count_le_length (a := p) (l := r); omega

/-- The order of the remaining ones does not matter. -/
theorem common_perm : ∀ (a : List Per) {b c : List Per}, b.Perm c → common a b = common a c
  | [], _, _, _ => rfl
  | p :: a, b, c, h => by
    unfold common
    by_cases hb : p ∈ b
    · rw [if_pos hb, if_pos (h.mem_iff.1 hb), common_perm a (h.erase p)]
    · rw [if_neg hb, if_neg (fun hc => hb (h.mem_iff.2 hc)), common_perm a h]

set_option maxHeartbeats 1000000 in
theorem DiffSame_yes (a1 a2 : Option Addr) (c1 c2 : Nat) (ps qs : List Per) (w : World) (hp : Pers w a1 ps) (hq : Pers w a2 qs) (hm1 : okPers ps = true) (hm2 : okPers qs = true) (hl1 : ps.length ≤ 40) (hl2 : qs.length ≤ 40) :
    Calls Try.prog 18 #[.slice a1 ps.length c1, .slice a2 qs.length c2] w (Ret (.int .i64 (common ps qs)) w) := by
  have HP := Lib.hid hp; clear hp
  have HQ := Lib.hid hq; clear hq
  have H1 := Lib.hid hm1; clear hm1
  have H2 := Lib.hid hm2; clear hm2
  have hmm := @run_makeMap Try.prog
  go_enter Try.func18, Try.ntmps18
  go_wp2_with fail
  refine (PeopleValid_any _ _ ps _ HP.out (by omega)).mono ?_
  rintro e w1 ⟨rfl, e1⟩
  rw [H1.out]
  go_wp2_with fail
  refine (PeopleValid_any _ _ qs _ (HQ.out.ext e1) (by omega)).mono ?_
  rintro e w2 ⟨rfl, e2⟩
  rw [H2.out]
  go_wp2
  clear hmm
  have e12 := e1.trans e2
  go_loopg [22] qs.length (fun g i wr => ∃ (k : Nat) (l : List (Per × Int)), k ≤ qs.length ∧ g = qs.length - k ∧ i = .int .i64 k ∧ Counts l (qs.take k).reverse ∧ IsMap wr w2.heap.size l ∧ Ext w2 wr)
  case atStart => exact ⟨0, [], Nat.zero_le _, rfl, rfl, fun p => by simp [look], by unfold IsMap; exact World.alloc_heap_new _ _, (Ext.refl _).alloc _⟩
  case round =>
    obtain ⟨k, l, hk, rfl, rfl, hcnt, hmap, hext⟩ := hrel
    have HC := Lib.hid hcnt; clear hcnt
    by_cases hlt : k < qs.length
    · obtain ⟨b, off, rfl, h0, h1, h2, h3⟩ := (HQ.out.ext (e12.trans hext)) k hlt
      have hz : (k : Int) < (qs.length : Int) := by omega
      have hll := look_le HC.out qs[k]
      have hle : (qs.take k).reverse.length ≤ 40 := by simp; omega
      go_wp2
      obtain ⟨W0, hW0⟩ : ∃ W0, wr.alloc (Obj.cells #[Value.int IntKind.i64 qs[k].area, Value.int IntKind.i64 qs[k].job, Value.int IntKind.i64 qs[k].sex, Value.int IntKind.i64 qs[k].pay] 36) = W0 := ⟨_, rfl⟩
      have b0 : W0.cell? ⟨wr.heap.size, 0, none⟩ = some (.int .i64 qs[k].area) := by rw [← hW0]; simp [go_sem]
      have b1 : W0.cell? ⟨wr.heap.size, 1, none⟩ = some (.int .i64 qs[k].job) := by rw [← hW0]; simp [go_sem]
      have b2 : W0.cell? ⟨wr.heap.size, 2, none⟩ = some (.int .i64 qs[k].sex) := by rw [← hW0]; simp [go_sem]
      have b3 : W0.cell? ⟨wr.heap.size, 3, none⟩ = some (.int .i64 qs[k].pay) := by rw [← hW0]; simp [go_sem]
      have m0 : IsMap W0 w2.heap.size l := by rw [← hW0]; exact hmap.alloc _
      have x0 : Ext w2 W0 := by rw [← hW0]; exact hext.alloc _
      rw [hW0]
      clear hW0 h0 h1 h2 h3
      obtain ⟨W1, hW1⟩ : ∃ W1, W0.drew.putObj w2.heap.size (.map (ents (ins l qs[k]) 0).toArray (ins l qs[k]).length) = W1 := ⟨_, rfl⟩
      obtain ⟨W2, hW2⟩ : ∃ W2, W1.putObj w2.heap.size (.map (ents (setP (ins l qs[k]) qs[k] (look l qs[k] + 1)) 0).toArray (setP (ins l qs[k]) qs[k] (look l qs[k] + 1)).length) = W2 := ⟨_, rfl⟩
      have m1 : IsMap W1 w2.heap.size (ins l qs[k]) := by rw [← hW1]; exact m0.drew.put
      have m2 : IsMap W2 w2.heap.size (setP (ins l qs[k]) qs[k] (look l qs[k] + 1)) := by rw [← hW2]; exact m1.put
      have x1 : Ext w2 W1 := by rw [← hW1]; exact Ext.putObj x0.drew (Nat.le_refl _) _
      have x2 : Ext w2 W2 := by rw [← hW2]; exact Ext.putObj x1 (Nat.le_refl _) _
      have r1 : (Instr.lookup 51 (.map (some w2.heap.size)) (.agg #[.int .i64 qs[k].area, .int .i64 qs[k].job, .int .i64 qs[k].sex, .int .i64 qs[k].pay]) false).run Try.prog W0.drew = .ok (.int .i64 (look l qs[k])) W0.drew := run_lookPer qs[k] _ _ l m0.drew
      have r2 : (Instr.mapEntry 51 (.map (some w2.heap.size)) (.agg #[.int .i64 qs[k].area, .int .i64 qs[k].job, .int .i64 qs[k].sex, .int .i64 qs[k].pay])).run Try.prog W0.drew = .ok (.tuple #[.int .i64 (look l qs[k]), .int .i64 (posn (ins l qs[k]) qs[k])]) W1 := by rw [← hW1]; exact run_entryPer qs[k] _ _ l m0.drew
      have r3 : (Instr.lookup 51 (.map (some w2.heap.size)) (.agg #[.int .i64 qs[k].area, .int .i64 qs[k].job, .int .i64 qs[k].sex, .int .i64 qs[k].pay]) false).run Try.prog W1 = .ok (.int .i64 (look l qs[k])) W1 := by have := run_lookPer qs[k] _ _ _ m1; rw [look_ins] at this; exact this
      have r4 : (Instr.entryStore 51 (.map (some w2.heap.size)) (.int .i64 (posn (ins l qs[k]) qs[k])) (.int .i64 (look l qs[k] + 1))).run Try.prog W1 = .ok () W2 := by rw [← hW2]; exact run_storePer qs[k] _ _ _ _ m1 (has_ins l qs[k])
      clear hW1 hW2
      have M2 := Lib.hid m2; clear m0 m1 m2 hmap hext
      go_region
      all_goals go_wp2
      all_goals
        go_roundg (qs.length - (k + 1))
        case measure => omega
        case rel => exact ⟨k + 1, _, by omega, rfl, by go_num, by rw [List.take_succ_eq_append_getElem hlt, List.reverse_append]; exact HC.out.inc qs[k], M2.out, x2⟩
    · have hz : ¬ (k : Int) < (qs.length : Int) := by omega
      have hc0 : Counts l qs := fun p => by
        have := HC.out p
        rw [List.take_of_length_le (by omega)] at this
        rw [this, List.count_reverse]
      have HC0 := Lib.hid hc0; clear hc0 HC
      go_wp2
      go_loopg [8, 35] ps.length (fun g n i wr => ∃ (k m : Nat) (l : List (Per × Int)) (r : List Per), k ≤ ps.length ∧ g = ps.length - k ∧ i = .int .i64 k ∧ n = .int .i64 m ∧ m ≤ k ∧ r.length ≤ 40 ∧ Counts l r ∧ m + common (ps.drop k) r = common ps qs ∧ IsMap wr w2.heap.size l ∧ Ext w2 wr)
      case atStart => exact ⟨0, 0, l, qs, Nat.zero_le _, rfl, rfl, rfl, Nat.le_refl _, hl2, HC0.out, by simp, hmap, hext⟩
      case round =>
        clear hmap hext HC0 hz hk
        obtain ⟨k, m, l, r, hk, rfl, rfl, rfl, hmk, hrl, hcnt, hcom, hmap, hext⟩ := hrel
        have HC := Lib.hid hcnt; clear hcnt
        have HM := Lib.hid hcom; clear hcom
        by_cases hlt : k < ps.length
        · obtain ⟨b, off, rfl, h0, h1, h2, h3⟩ := (HP.out.ext (e12.trans hext)) k hlt
          have hz : (k : Int) < (ps.length : Int) := by omega
          have hll := look_le HC.out ps[k]
          have r0 : (Instr.lookup 51 (.map (some w2.heap.size)) (.agg #[.int .i64 ps[k].area, .int .i64 ps[k].job, .int .i64 ps[k].sex, .int .i64 ps[k].pay]) false).run Try.prog (wr.alloc (Obj.cells #[Value.int IntKind.i64 ps[k].area, Value.int IntKind.i64 ps[k].job, Value.int IntKind.i64 ps[k].sex, Value.int IntKind.i64 ps[k].pay] 36)) = .ok (.int .i64 (look l ps[k])) (wr.alloc (Obj.cells #[Value.int IntKind.i64 ps[k].area, Value.int IntKind.i64 ps[k].job, Value.int IntKind.i64 ps[k].sex, Value.int IntKind.i64 ps[k].pay] 36)) := run_lookPer ps[k] _ _ l (hmap.alloc _)
          by_cases hpos : 0 < look l ps[k]
          · have hmem : ps[k] ∈ r := by
              have := HC.out ps[k]
              exact List.count_pos_iff.1 (by omega)
            have hst := common_step_hit (r := r) hlt hmem
            have HS := Lib.hid hst; clear hst
            go_wp2
            clear r0
            obtain ⟨W0, hW0⟩ : ∃ W0, wr.alloc (Obj.cells #[Value.int IntKind.i64 ps[k].area, Value.int IntKind.i64 ps[k].job, Value.int IntKind.i64 ps[k].sex, Value.int IntKind.i64 ps[k].pay] 36) = W0 := ⟨_, rfl⟩
            have b0 : W0.cell? ⟨wr.heap.size, 0, none⟩ = some (.int .i64 ps[k].area) := by rw [← hW0]; simp [go_sem]
            have b1 : W0.cell? ⟨wr.heap.size, 1, none⟩ = some (.int .i64 ps[k].job) := by rw [← hW0]; simp [go_sem]
            have b2 : W0.cell? ⟨wr.heap.size, 2, none⟩ = some (.int .i64 ps[k].sex) := by rw [← hW0]; simp [go_sem]
            have b3 : W0.cell? ⟨wr.heap.size, 3, none⟩ = some (.int .i64 ps[k].pay) := by rw [← hW0]; simp [go_sem]
            have m0 : IsMap W0 w2.heap.size l := by rw [← hW0]; exact hmap.alloc _
            have x0 : Ext w2 W0 := by rw [← hW0]; exact hext.alloc _
            rw [hW0]
            clear hW0 h0 h1 h2 h3
            obtain ⟨W1, hW1⟩ : ∃ W1, W0.drew.putObj w2.heap.size (.map (ents (ins l ps[k]) 0).toArray (ins l ps[k]).length) = W1 := ⟨_, rfl⟩
            obtain ⟨W2, hW2⟩ : ∃ W2, W1.putObj w2.heap.size (.map (ents (setP (ins l ps[k]) ps[k] (look l ps[k] - 1)) 0).toArray (setP (ins l ps[k]) ps[k] (look l ps[k] - 1)).length) = W2 := ⟨_, rfl⟩
            have m1 : IsMap W1 w2.heap.size (ins l ps[k]) := by rw [← hW1]; exact m0.drew.put
            have m2 : IsMap W2 w2.heap.size (setP (ins l ps[k]) ps[k] (look l ps[k] - 1)) := by rw [← hW2]; exact m1.put
            have x1 : Ext w2 W1 := by rw [← hW1]; exact Ext.putObj x0.drew (Nat.le_refl _) _
            have x2 : Ext w2 W2 := by rw [← hW2]; exact Ext.putObj x1 (Nat.le_refl _) _
            have r1 : (Instr.lookup 51 (.map (some w2.heap.size)) (.agg #[.int .i64 ps[k].area, .int .i64 ps[k].job, .int .i64 ps[k].sex, .int .i64 ps[k].pay]) false).run Try.prog W0.drew = .ok (.int .i64 (look l ps[k])) W0.drew := run_lookPer ps[k] _ _ l m0.drew
            have r2 : (Instr.mapEntry 51 (.map (some w2.heap.size)) (.agg #[.int .i64 ps[k].area, .int .i64 ps[k].job, .int .i64 ps[k].sex, .int .i64 ps[k].pay])).run Try.prog W0.drew = .ok (.tuple #[.int .i64 (look l ps[k]), .int .i64 (posn (ins l ps[k]) ps[k])]) W1 := by rw [← hW1]; exact run_entryPer ps[k] _ _ l m0.drew
            have r3 : (Instr.lookup 51 (.map (some w2.heap.size)) (.agg #[.int .i64 ps[k].area, .int .i64 ps[k].job, .int .i64 ps[k].sex, .int .i64 ps[k].pay]) false).run Try.prog W1 = .ok (.int .i64 (look l ps[k])) W1 := by have := run_lookPer ps[k] _ _ _ m1; rw [look_ins] at this; exact this
            have r4 : (Instr.entryStore 51 (.map (some w2.heap.size)) (.int .i64 (posn (ins l ps[k]) ps[k])) (.int .i64 (look l ps[k] - 1))).run Try.prog W1 = .ok () W2 := by rw [← hW2]; exact run_storePer ps[k] _ _ _ _ m1 (has_ins l ps[k])
            clear hW1 hW2
            have M2 := Lib.hid m2; clear m0 m1 m2 hmap hext
            go_region
            all_goals go_wp2
            all_goals
              go_roundg (ps.length - (k + 1))
              case measure => omega
              case rel => exact ⟨k + 1, m + 1, _, r.erase ps[k], by omega, rfl, by go_num, by go_num, by omega, by rw [List.length_erase_of_mem hmem]; omega, HC.out.dec ps[k] hmem, by have := HM.out; have := HS.out; omega, M2.out, x2⟩
          · have hmem : ps[k] ∉ r := fun hh => by
              have := HC.out ps[k]
              have := List.count_pos_iff.2 hh
              omega
            have hst := common_step_miss (r := r) hlt hmem
            have HS := Lib.hid hst; clear hst
            go_wp2
            go_roundg (ps.length - (k + 1))
            case measure => omega
            case rel => exact ⟨k + 1, m, l, r, by omega, rfl, by go_num, rfl, by omega, hrl, HC.out, by have := HM.out; have := HS.out; omega, hmap.alloc _, hext.alloc _⟩
        · have hz : ¬ (k : Int) < (ps.length : Int) := by omega
          go_wp2
          go_ret
          refine ⟨ret_int ?_, e12.trans hext⟩
          have := HM.out
          rw [List.drop_eq_nil_of_le (by omega)] at this
          simp [common] at this
          omega

end Go.Proofs.Ytkldaapcpnpdfaa
