/- Plain laws on the number of common persons. -/
import Derived.Test.YtkldaapcpnpdfaaPerMap
import Derived.Test.YtkldaapcpnpdfaaPeople3
namespace Go.Proofs.Ytkldaapcpnpdfaa
open Go.RowKit Go.DC
theorem common_swap (x y : Per) (a b : List Per) : common (x :: y :: a) b = common (y :: x :: a) b := by
  by_cases e : x = y
  · subst e; rfl
  have e' : y ≠ x := fun h => e h.symm
  by_cases hx : x ∈ b <;> by_cases hy : y ∈ b
  · have h1 : y ∈ b.erase x := (List.mem_erase_of_ne e').2 hy
    have h2 : x ∈ b.erase y := (List.mem_erase_of_ne e).2 hx
    simp only [common, if_pos hx, if_pos hy, if_pos h1, if_pos h2, List.erase_comm x y]
  · have h1 : y ∉ b.erase x := fun h => hy ((List.mem_erase_of_ne e').1 h)
    simp only [common, if_pos hx, if_neg hy, if_neg h1]
  · have h2 : x ∉ b.erase y := fun h => hx ((List.mem_erase_of_ne e).1 h)
    simp only [common, if_neg hx, if_pos hy, if_neg h2]
  · simp only [common, if_neg hx, if_neg hy]

theorem common_perm_left {a a' : List Per} (h : a.Perm a') : ∀ b, common a b = common a' b := by
  induction h with
  | nil => intro b; rfl
  | cons x _ ih => intro b; simp only [common]; split <;> simp only [ih]
  | swap x y l => intro b; exact common_swap y x l b
  | trans _ _ ih1 ih2 => intro b; rw [ih1, ih2]

theorem common_nil : ∀ a : List Per, common a [] = 0
  | [] => rfl
  | p :: a => by simp [common, common_nil a]
theorem common_cons_cons (p : Per) (a b : List Per) : common (p :: a) (p :: b) = common a b + 1 := by
  simp [common]
theorem common_skip (p : Per) : ∀ (a b : List Per), p ∉ a → common a (p :: b) = common a b
  | [], b, _ => rfl
  | q :: a, b, h => by
    have hq : q ≠ p := fun e => h (by simp [e])
    have ha : p ∉ a := fun e => h (by simp [e])
    by_cases hb : q ∈ b
    · have : q ∈ p :: b := List.mem_cons_of_mem _ hb
      simp only [common, if_pos hb, if_pos this]
      rw [List.erase_cons_tail (by simpa using fun e => hq e.symm), common_skip p a (b.erase q) ha]
    · have : q ∉ p :: b := by simp [hq, hb]
      simp only [common, if_neg hb, if_neg this, common_skip p a b ha]
theorem common_comm : ∀ a b : List Per, common a b = common b a
  | [], b => by rw [common_nil]; rfl
  | p :: a, b => by
    by_cases hb : p ∈ b
    · rw [common_perm_left (List.perm_cons_erase hb) (p :: a), common_cons_cons]
      simp only [common, if_pos hb, common_comm a (b.erase p)]
    · rw [common_skip p b a hb]
      simp only [common, if_neg hb, common_comm a b]
theorem common_app_left : ∀ x y : List Per, common (x ++ y) x = x.length
  | [], y => common_nil y
  | p :: x, y => by rw [List.cons_append, common_cons_cons, common_app_left x y]; rfl
theorem common_take (ps : List Per) (k : Nat) (h : k ≤ ps.length) : common ps (ps.take k) = k := by
  have := common_app_left (ps.take k) (ps.drop k)
  rw [List.take_append_drop] at this
  rw [this, List.length_take]; omega
theorem common_self (ps : List Per) : common ps ps = ps.length := by
  have := common_take ps ps.length (Nat.le_refl _)
  rwa [List.take_length] at this
theorem common_le_right (a b : List Per) : common a b ≤ b.length := by
  rw [common_comm]; exact common_le b a
theorem common_add (a b : List Per) (p : Per) : common (a ++ [p]) (b ++ [p]) = common a b + 1 := by
  rw [common_perm_left (List.perm_append_comm) _, common_perm _ (List.perm_append_comm (l₁ := b) (l₂ := [p]))]
  exact common_cons_cons p a b
theorem rot_perm {α : Type} (a : List α) (k : Nat) : (a.drop k ++ a.take k).Perm a := by
  have := List.perm_append_comm (l₁ := a.drop k) (l₂ := a.take k)
  rwa [List.take_append_drop] at this
theorem common_rot (a b : List Per) (k l : Nat) : common (a.drop k ++ a.take k) (b.drop l ++ b.take l) = common a b := by
  rw [common_perm_left (rot_perm a k), common_perm _ (rot_perm b l)]

theorem okPers_perm {a b : List Per} (h : a.Perm b) : okPers a = okPers b := by
  unfold okPers
  rw [h.length_eq]
  congr 1
  rw [Bool.eq_iff_iff, List.all_eq_true, List.all_eq_true]
  exact ⟨fun H x hx => H x (h.mem_iff.2 hx), fun H x hx => H x (h.mem_iff.1 hx)⟩
theorem okPers_take {a : List Per} (h : okPers a = true) (k : Nat) : okPers (a.take k) = true := by
  unfold okPers at *
  simp only [Bool.and_eq_true, List.all_eq_true, decide_eq_true_eq] at *
  exact ⟨fun x hx => h.1 x (List.mem_of_mem_take hx), by have := List.length_take_le' k a; omega⟩
theorem okPers_drop {a : List Per} (h : okPers a = true) (k : Nat) : okPers (a.drop k) = true := by
  unfold okPers at *
  simp only [Bool.and_eq_true, List.all_eq_true, decide_eq_true_eq] at *
  exact ⟨fun x hx => h.1 x (List.mem_of_mem_drop hx), by rw [List.length_drop]; omega⟩
theorem okPers_snoc {a : List Per} {p : Per} (h : okPers a = true) (hp : p.ok = true) (hl : a.length < 40) : okPers (a ++ [p]) = true := by
  unfold okPers at *
  simp only [Bool.and_eq_true, List.all_eq_true, decide_eq_true_eq] at *
  refine ⟨fun x hx => ?_, by simp; omega⟩
  rcases List.mem_append.1 hx with h1 | h1
  · exact h.1 x h1
  · simp at h1; rw [h1]; exact hp
theorem okPers_ok {a : List Per} (h : okPers a = true) {k : Nat} (hk : k < a.length) : a[k].ok = true := by
  unfold okPers at h
  simp only [Bool.and_eq_true, List.all_eq_true] at h
  exact h.1 _ (List.getElem_mem hk)

theorem diffPeople_self {ps : List Per} (h : okPers ps = true) : diffPeople ps ps = true := by
  simp [diffPeople, h, common_self]
theorem diffPeople_take {ps : List Per} (h : okPers ps = true) {k : Nat} (hk : k ≤ ps.length) : diffPeople ps (ps.take k) = true := by
  simp [diffPeople, h, okPers_take h, common_take ps k hk, Nat.min_eq_left hk]
theorem diffPeople_part {ps : List Per} (h : okPers ps = true) {k : Nat} (hk : k ≤ ps.length) : diffPeople (ps.take k) ps = decide (k = ps.length) := by
  simp only [diffPeople, h, okPers_take h, common_comm (ps.take k) ps, common_take ps k hk, Bool.true_and]
  rw [Bool.eq_iff_iff]; simp
theorem diffPeople_ok {a b : List Per} (h : diffPeople a b = true) : okPers a = true ∧ okPers b = true ∧ common a b = b.length := by
  simp only [diffPeople, Bool.and_eq_true, beq_iff_eq] at h
  exact ⟨h.1.1, h.1.2, h.2⟩
theorem diffPeople_rot {a b : List Per} (h : diffPeople a b = true) (k l : Nat) : diffPeople (a.drop k ++ a.take k) (b.drop l ++ b.take l) = true := by
  obtain ⟨h1, h2, h3⟩ := diffPeople_ok h
  simp only [diffPeople, okPers_perm (rot_perm a k), okPers_perm (rot_perm b l), h1, h2, common_rot, h3, (rot_perm b l).length_eq]
  simp
theorem diffSame_of {a b : List Per} (h : okPers a = true) (h2 : okPers b = true) : diffSame a b = common a b := by simp [diffSame, h, h2]
theorem diffSame_ok {a b : List Per} (h : 0 ≤ diffSame a b) : okPers a = true ∧ okPers b = true := by
  unfold diffSame at h
  split at h
  · rename_i h'; simpa using h'
  · omega

end Go.Proofs.Ytkldaapcpnpdfaa
