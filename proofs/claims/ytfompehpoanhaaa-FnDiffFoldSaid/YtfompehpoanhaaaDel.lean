/- A row is taken out of a table of one's own. -/
import Derived.Test.YtfompehpoanhaaaOwn
import Derived.Test.YtfompehpoanhaaaTabImpl
import Derived.Shelf.SlicesE.Delete
import Derived.Lib.OwnBridge
namespace Go.DC
open Go.RowKit
section
variable {α : Type} {enc : α → Value} {te ts : TypeId} {w w' : World} {B : Nat} {vs : List Value} {t : List (List α)}
/-- Row b is taken out. -/
theorem OwnT.erase {o n c b : Nat} (h : OwnT enc te ts w B (.slice (some ⟨o, 0, none⟩) n c) vs t) (g : w.grownBy w' (some o)) (hb : b < t.length) (ho : w'.ownsRow B ts 1 (.slice (some ⟨o, 0, none⟩) (n - 1) c) (n - 1) (vs.eraseIdx b)) :
    OwnT enc te ts w' B (.slice (some ⟨o, 0, none⟩) (n - 1) c) (vs.eraseIdx b) (t.eraseIdx b) := by
  have hbv : b < vs.length := by rw [h.len]; exact hb
  have hn : n = t.length := by
    obtain ⟨a', c', e', _⟩ := owns_cells h.outer
    simpa using congrArg (fun v => match v with | Value.slice _ m _ => m | _ => 0) e'
  have hlv : (vs.eraseIdx b).length = vs.length - 1 := List.length_eraseIdx_of_lt hbv
  have hlt : (t.eraseIdx b).length = t.length - 1 := List.length_eraseIdx_of_lt hb
  -- where an element stood
  have key : ∀ (l : Nat) (hl : l < (vs.eraseIdx b).length), ∃ m, ∃ hm : m < vs.length, (m = if l < b then l else l + 1) ∧ (vs.eraseIdx b)[l] = vs[m] := fun l hl => by
    by_cases e : l < b
    · exact ⟨l, by omega, by rw [if_pos e], by rw [List.getElem_eraseIdx_of_lt (h := hl) e]⟩
    · exact ⟨l + 1, by omega, by rw [if_neg e], by rw [List.getElem_eraseIdx_of_ge (h := hl) (by omega)]⟩
  refine ⟨by rw [hlv, hlt, h.len], ?_, fun l hl hl' => ?_, fun l m hl hm hlm x hx => ?_, fun l hl x hx => ?_⟩
  · rw [hlt, ← hn]; exact ho
  · obtain ⟨m, hm, em, e1⟩ := key l hl'
    have hmt : m < t.length := by rw [← h.len]; exact hm
    have e2 : (t.eraseIdx b)[l] = t[m] := by
      by_cases e : l < b
      · rw [if_pos e] at em; subst em; exact List.getElem_eraseIdx_of_lt (h := hl) e
      · rw [if_neg e] at em; subst em; exact List.getElem_eraseIdx_of_ge (h := hl) (by omega)
    rw [e1, e2]
    exact (h.inner m hmt hm).kept g (by
      cases hv : vs[m].ownBlock with
      | none => exact .inl rfl
      | some x => exact .inr (fun e => by cases e; exact h.away m hm o rfl hv))
  · obtain ⟨p, hp, ep, e1⟩ := key l hl
    obtain ⟨q, hq, eq, e2⟩ := key m hm
    rw [e1] at hx
    rw [e2]
    refine h.apart p q hp hq (fun e => hlm ?_) x hx
    rw [ep, eq] at e
    split at e <;> split at e <;> omega
  · obtain ⟨p, hp, ep, e1⟩ := key l hl
    rw [e1]
    exact h.away p hp x hx
end
end Go.DC
namespace Go.Proofs.Ytfompehpoanhaaa
open Go.RowKit Go.DC Go.Shelf
def delRen : Ren := ⟨fun x => if x = 45 then 62 else x, fun x => if x = 0 then 0 else if x = 3 then 3 else if x = 4 then 4 else if x = 22 then 23 else if x = 23 then 43 else x, fun x => x⟩
theorem delLays : SlLaysE.n45 Try.prog delRen where
  mixed := by kernel_rfl
  f45 := ⟨Try.f62.name, rfl, by kernel_rfl⟩
  t0 := Try.underlying0
  a0 := fun w => by kernel_rfl
  z0 := fun w => by kernel_rfl
  v0 := fun w => by kernel_rfl
  t3 := Try.underlying3
  a3 := fun w => by kernel_rfl
  z3 := fun w => by kernel_rfl
  v3 := fun w => by kernel_rfl
  t4 := Try.underlying4
  a4 := fun w => by kernel_rfl
  z4 := fun w => by kernel_rfl
  v4 := fun w => by kernel_rfl
  t22 := Try.underlying23
  a22 := fun w => by kernel_rfl
  z22 := fun w => by kernel_rfl
  v22 := fun w => by kernel_rfl
  a23 := fun w => by kernel_rfl
  z23 := fun w => by kernel_rfl
abbrev Trip := Option Addr × Nat × Nat
def encS (x : Trip) : Value := .slice x.1 x.2.1 x.2.2
def trip : Value → Trip
  | .slice a n c => (a, n, c)
  | _ => (none, 0, 0)
theorem trips {w : World} {B : Nat} {v : Value} {vs : List Value} {t : List (List Int)} (h : OwnI w B v vs t) : (vs.map trip).map encS = vs := by
  apply List.ext_getElem
  · simp
  · intro k h1 h2
    obtain ⟨a, c, e, _⟩ := owns_cells (h.inner k (by rw [← h.len]; exact h2) h2)
    simp only [List.getElem_map]
    rw [e]; rfl
/-- Row 1 is deleted. -/
theorem Delete1_any {w : World} {B o n c : Nat} {vs : List Value} {t : List (List Int)} (h : OwnI w B (.slice (some ⟨o, 0, none⟩) n c) vs t) (hn : t.length = n) (h2 : 2 ≤ n) (hc : c ≤ 9223372036854775807) :
    Calls Try.prog 62 #[.slice (some ⟨o, 0, none⟩) n c, .int .i64 1, .int .i64 2] w fun e w' => e = .returned (.slice (some ⟨o, 0, none⟩) (n - 1) c) ∧ OwnI w' B (.slice (some ⟨o, 0, none⟩) (n - 1) c) (vs.eraseIdx 1) (t.eraseIdx 1) ∧ w.grownBy w' (some o) := by
  have htr := trips h
  have hlv : vs.length = n := by rw [h.len, hn]
  have hout := h.outer
  rw [hn, ← htr] at hout
  obtain ⟨g, cap, ev, hB, hg, hcap, _, hzl, hH⟩ := Lib.holds_of_ownsRow hout (by simp)
  cases ev
  obtain ⟨i0, hi, hz0, hz1, _⟩ := info_parts Try.dcRowI
  have hds : (vs.map trip).toArray.size = n := by simp [hlv]
  have hdel := AnyE.slices_Delete delLays encS (fun _ => rfl) (none, 0, 0) (fun w => by kernel_rfl) i0 hi hz1 o 0 c 1 2 (vs.map trip).toArray w hH (by omega) hc (by omega) (by omega)
  rw [hds] at hdel
  refine Calls.mono hdel ?_
  rintro e w' ⟨rfl, q, rfl⟩
  have hys : ((vs.map trip).take 1 ++ (vs.map trip).drop 2 ++ List.replicate (2 - 1) ((none, 0, 0) : Trip)).length = n := by simp [hlv]; omega
  have hno := Lib.ownsRow_putRow (q := q) (k := n - 1) hout hys (by omega)
  have htk : (((vs.map trip).take 1 ++ (vs.map trip).drop 2 ++ List.replicate (2 - 1) ((none, 0, 0) : Trip)).take (n - 1)).map encS = vs.eraseIdx 1 := by
    have e1 : ((vs.map trip).take 1 ++ (vs.map trip).drop 2).length = n - 1 := by simp [hlv]; omega
    rw [← e1, List.take_left', List.map_append, List.map_take, List.map_drop, htr, List.eraseIdx_eq_take_drop_succ]
    rfl
  rw [htk] at hno
  have hgr : w.grownBy (Sort.putRow encS (Sort.ahead w q) o 0 ((vs.map trip).take 1 ++ (vs.map trip).drop 2 ++ List.replicate (2 - 1) ((none, 0, 0) : Trip)).toArray) (some o) :=
    ⟨rfl, rfl, rfl, by simp [Sort.ahead], fun k hk hne => by
      have : o ≠ k := fun e => hne (by rw [e])
      simp [Sort.putRow, Sort.mapBlock, Sort.ahead, Array.getElem?_modify, this]⟩
  exact ⟨rfl, h.erase hgr (by rw [hn]; omega) hno, hgr⟩
end Go.Proofs.Ytfompehpoanhaaa
