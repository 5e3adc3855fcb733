/- How many first cells are not safe; whether a pattern is ok. -/
import Derived.Test.YtelcdjbbcffliaaSafe
namespace Go.Proofs.Ytelcdjbbcffliaa
open Go.RowKit Go.DC Go.Shelf
attribute [local go_sem] Oper.semAt_some
theorem BoundToldX_any (a mb : Option Addr) (c d : Nat) (t : List (List Int)) (mk : List (List Bool)) (i j : Int) (w : World) (ht : IRows w a t) (hmk : BRows w mb mk) (hm : t.length ≤ 9223372036854775807) (hm2 : mk.length ≤ 9223372036854775807) (_hi : -9223372036854775808 ≤ i ∧ i ≤ 9223372036854775807) (_hj : -9223372036854775808 ≤ j ∧ j ≤ 9223372036854775807) :
    Calls Try.prog 66 #[.slice a t.length c, .slice mb mk.length d, .int .i64 i, .int .i64 j] w (Ret (.bool (toldV t mk i j)) w) := BoundTold_any a mb c d t mk i j w ht hmk hm hm2
/-- What is asked of the arguments. -/
noncomputable def needOk (t : List (List Int)) (fm mk : List (List Bool)) (s : Int) : Bool := maskOk t fm && (maskOk t mk && inCell s)
noncomputable def needF (t : List (List Int)) (fm mk : List (List Bool)) (s : Int) : Nat → Nat → Bool := notSafe (get false fm) (fun i j => safeF t.length (wide t) (get 0 t) (get false mk) i j s)
theorem needV_no {t : List (List Int)} {fm mk : List (List Bool)} {s : Int} (h : needOk t fm mk s = false) : needV t fm mk s = -1 := by
  unfold needOk at h; unfold needV; rw [h]; rfl
theorem needV_yes {t : List (List Int)} {fm mk : List (List Bool)} {s : Int} (h : needOk t fm mk s = true) : needV t fm mk s = manyN t.length (wide t) (needF t fm mk s) := by
  unfold needOk at h; unfold needV; rw [h]; rfl
theorem needOk_iff {t : List (List Int)} {fm mk : List (List Bool)} {s : Int} : needOk t fm mk s = true ↔ maskOk t fm = true ∧ maskOk t mk = true ∧ inCell s = true := by
  unfold needOk; rw [Bool.and_eq_true, Bool.and_eq_true]
theorem needOk_no1 {t : List (List Int)} {fm mk : List (List Bool)} {s : Int} (h : maskOk t fm = false) : needOk t fm mk s = false := by unfold needOk; rw [h]; rfl
theorem needOk_no2 {t : List (List Int)} {fm mk : List (List Bool)} {s : Int} (h : maskOk t mk = false) : needOk t fm mk s = false := by unfold needOk; rw [h]; simp
theorem needOk_no3 {t : List (List Int)} {fm mk : List (List Bool)} {s : Int} (h : inCell s = false) : needOk t fm mk s = false := by unfold needOk; rw [h]; simp
/-- Four new boxes. -/
structure Box4 (W : World) (n : Nat) (T1 T2 T3 T4 : TypeId) (u1 u2 u3 u4 : Value) : Prop where
  b1 : Box W n T1 u1
  b2 : Box W (n + 1) T2 u2
  b3 : Box W (n + 1 + 1) T3 u3
  b4 : Box W (n + 1 + 1 + 1) T4 u4
  size : W.heap.size = n + 4
theorem box4 (w : World) (T1 T2 T3 T4 : TypeId) (u1 u2 u3 u4 : Value) : Box4 ((((w.alloc (.cells #[u1] T1)).alloc (.cells #[u2] T2)).alloc (.cells #[u3] T3)).alloc (.cells #[u4] T4)) w.heap.size T1 T2 T3 T4 u1 u2 u3 u4 := by
  have s1 : (w.alloc (.cells #[u1] T1)).heap.size = w.heap.size + 1 := by simp
  have s2 : ((w.alloc (.cells #[u1] T1)).alloc (.cells #[u2] T2)).heap.size = w.heap.size + 2 := by simp
  have s3 : (((w.alloc (.cells #[u1] T1)).alloc (.cells #[u2] T2)).alloc (.cells #[u3] T3)).heap.size = w.heap.size + 3 := by simp
  have n1 := Box.new w T1 u1
  have n2 := Box.new (w.alloc (.cells #[u1] T1)) T2 u2
  have n3 := Box.new ((w.alloc (.cells #[u1] T1)).alloc (.cells #[u2] T2)) T3 u3
  have n4 := Box.new (((w.alloc (.cells #[u1] T1)).alloc (.cells #[u2] T2)).alloc (.cells #[u3] T3)) T4 u4
  rw [s1] at n2
  rw [s2] at n3
  rw [s3] at n4
  exact ⟨((n1.ext ((Ext.refl _).alloc _)).ext ((Ext.refl _).alloc _)).ext ((Ext.refl _).alloc _), (n2.ext ((Ext.refl _).alloc _)).ext ((Ext.refl _).alloc _), n3.ext ((Ext.refl _).alloc _), n4, by simp⟩
end Go.Proofs.Ytelcdjbbcffliaa
