/- The room that is left between places, as the program keeps it. Plain Lean. No conditions. -/
import Derived.Test.YtelcdjbbcffliaaFlow2
import Derived.Test.YtelcdjbbcffliaaReach
namespace Go.DC
def hid (b : Nat → Nat → Bool) (i j k l : Nat) : Bool := b k l && !(decide (k = i) && decide (l = j))
theorem hid_iff {b : Nat → Nat → Bool} {i j k l : Nat} : hid b i j k l = true ↔ b k l = true ∧ ¬ (k = i ∧ l = j) := by
  unfold hid
  rw [Bool.and_eq_true, Bool.not_eq_true', Bool.and_eq_false_iff, decide_eq_false_iff_not, decide_eq_false_iff_not]
  constructor
  · rintro ⟨h1, h2⟩
    exact ⟨h1, fun e => by rcases h2 with h2 | h2 <;> simp_all⟩
  · rintro ⟨h1, h2⟩
    refine ⟨h1, ?_⟩
    by_cases e : k = i
    · exact .inr (fun e2 => h2 ⟨e, e2⟩)
    · exact .inl e
/-- From a row to a column, and back. -/
def rc (f : Nat → Nat → Int) (up : Bool) (x : Nat → Nat → Int) (k l : Nat) : Int := if up then x k l else 3168 + f k l - x k l
def cr (f : Nat → Nat → Int) (up : Bool) (x : Nat → Nat → Int) (k l : Nat) : Int := if up then 3168 + f k l - x k l else x k l
def roomG (h : Nat) (f : Nat → Nat → Int) (b : Nat → Nat → Bool) (i j : Nat) (up : Bool) (x : Nat → Nat → Int) (u v : Nat) : Int :=
  if u < h then (if h ≤ v then (if hid b i j u (v - h) then rc f up x u (v - h) else 0) else 0)
  else (if v < h then (if hid b i j v (u - h) then cr f up x v (u - h) else 0) else 0)
section
variable {h m : Nat} {f : Nat → Nat → Int} {b : Nat → Nat → Bool} {i j : Nat} {up : Bool} {x X : Nat → Nat → Int}
theorem roomG_rc {u v : Nat} (hu : u < h) (hv : h ≤ v) (hh : hid b i j u (v - h) = true) : roomG h f b i j up x u v = rc f up x u (v - h) := by
  unfold roomG; rw [if_pos hu, if_pos hv, if_pos hh]
theorem roomG_cr {u v : Nat} (hu : h ≤ u) (hv : v < h) (hh : hid b i j v (u - h) = true) : roomG h f b i j up x u v = cr f up x v (u - h) := by
  unfold roomG; rw [if_neg (by omega), if_pos hv, if_pos hh]
/-- Sums are small. -/
def Small (h m : Nat) (f : Nat → Nat → Int) : Prop := (∀ k, k < h → sumN m (f k) ≤ 396) ∧ (∀ l, l < m → sumN h (fun k => f k l) ≤ 396) ∧ ∀ k l, k < h → l < m → 0 ≤ f k l ∧ f k l ≤ 99
theorem Near.other (hs : Small h m f) (hx : Near h m f b i j x) {k l : Nat} (hk : k < h) (hl : l < m) (hne : ¬ (k = i ∧ l = j)) : 0 ≤ x k l ∧ x k l ≤ 396 := by
  refine ⟨hx.pos k l hk hl hne, ?_⟩
  rcases hx.le_other hk hl hne with h1 | h1
  · have := hs.1 k hk; omega
  · have := hs.2.1 l hl; omega
theorem room_open (hs : Small h m f) (hx : Near h m f b i j x) {u v : Nat} (hu : u < h + m) (hv : v < h + m) : 0 < roomG h f b i j up x u v ↔ Open h m b i j up x u v := by
  unfold roomG Open
  by_cases h1 : u < h
  · rw [if_pos h1]
    by_cases h2 : h ≤ v
    · rw [if_pos h2]
      by_cases h3 : hid b i j u (v - h) = true
      · rw [if_pos h3]
        obtain ⟨h4, h5⟩ := hid_iff.1 h3
        have ho := hx.other hs h1 (show v - h < m by omega) h5
        have hf := hs.2.2 u (v - h) h1 (by omega)
        unfold rc
        cases up with
        | true => constructor
                  · intro hp; exact .inl ⟨h1, h2, hv, h4, h5, fun _ => by simpa using hp⟩
                  · rintro (⟨_, _, _, _, _, hp⟩ | ⟨hc, _⟩)
                    · simpa using hp rfl
                    · omega
        | false => constructor
                   · intro hp; exact .inl ⟨h1, h2, hv, h4, h5, fun e => by cases e⟩
                   · intro _; simp; omega
      · rw [if_neg h3]
        constructor
        · intro hp; omega
        · rintro (⟨_, _, _, h4, h5, _⟩ | ⟨hc, _⟩)
          · exact absurd (hid_iff.2 ⟨h4, h5⟩) h3
          · omega
    · rw [if_neg h2]
      constructor
      · intro hp; omega
      · rintro (⟨_, hc, _⟩ | ⟨hc, _⟩) <;> omega
  · rw [if_neg h1]
    by_cases h2 : v < h
    · rw [if_pos h2]
      by_cases h3 : hid b i j v (u - h) = true
      · rw [if_pos h3]
        obtain ⟨h4, h5⟩ := hid_iff.1 h3
        have ho := hx.other hs h2 (show u - h < m by omega) h5
        have hf := hs.2.2 v (u - h) h2 (by omega)
        unfold cr
        cases up with
        | true => constructor
                  · intro hp; exact .inr ⟨by omega, hu, h2, h4, h5, fun e => by cases e⟩
                  · intro _; simp; omega
        | false => constructor
                   · intro hp; exact .inr ⟨by omega, hu, h2, h4, h5, fun _ => by simpa using hp⟩
                   · rintro (⟨hc, _⟩ | ⟨_, _, _, _, _, hp⟩)
                     · omega
                     · simpa using hp rfl
      · rw [if_neg h3]
        constructor
        · intro hp; omega
        · rintro (⟨hc, _⟩ | ⟨_, _, _, h4, h5, _⟩)
          · omega
          · exact absurd (hid_iff.2 ⟨h4, h5⟩) h3
    · rw [if_neg h2]
      constructor
      · intro hp; omega
      · rintro (⟨hc, _⟩ | ⟨_, _, hc, _⟩) <;> omega
/-- A search over the room is one over open steps. -/
theorem Bfs.open {P : Nat → Int} {q : List Nat} (hs : Small h m f) (hx : Near h m f b i j x) (w : Bfs (h + m) i (fun u v => 0 < roomG h f b i j up x u v) P q) : Bfs (h + m) i (Open h m b i j up x) P q :=
  ⟨⟨w.way.zero, w.way.lt, w.way.nodup, fun s hs' h0 => by
    obtain ⟨t, ht, hts, hp, hE⟩ := w.way.from_ s hs' h0
    exact ⟨t, ht, hts, hp, (room_open hs hx (w.way.lt _ (List.getElem_mem ht)) (w.way.lt _ (List.getElem_mem hs'))).1 hE⟩⟩, w.mem, w.bd⟩
theorem Closed.open {q : List Nat} (hs : Small h m f) (hx : Near h m f b i j x) (hq : ∀ u ∈ q, u < h + m) (c : Closed (h + m) (fun u v => 0 < roomG h f b i j up x u v) q) : Closed (h + m) (Open h m b i j up x) q :=
  fun u hu v hv hE => c u hu v hv ((room_open hs hx (hq u hu) hv).2 hE)
/-- The cell (i, j) itself has no room. -/
theorem roomG_own (z : Int) : roomG h f b i j up (upd x i j z) = roomG h f b i j up x := by
  funext u v
  unfold roomG
  have key : ∀ k l, hid b i j k l = true → upd x i j z k l = x k l := fun k l hh => by
    obtain ⟨_, hne⟩ := hid_iff.1 hh
    unfold upd; rw [if_neg hne]
  by_cases h1 : u < h
  · rw [if_pos h1, if_pos h1]
    split
    · split
      · rename_i hh; unfold rc; rw [key _ _ hh]
      · rfl
    · rfl
  · rw [if_neg h1, if_neg h1]
    split
    · split
      · rename_i hh; unfold cr; rw [key _ _ hh]
      · rfl
    · rfl
theorem rc_upd {k l r c : Nat} {z : Int} (hne : ¬ (k = r ∧ l = c)) : rc f up (upd X r c z) k l = rc f up X k l := by
  unfold rc upd; rw [if_neg hne]
theorem cr_upd {k l r c : Nat} {z : Int} (hne : ¬ (k = r ∧ l = c)) : cr f up (upd X r c z) k l = cr f up X k l := by
  unfold cr upd; rw [if_neg hne]
theorem rc_upd_at {r c : Nat} {z : Int} : rc f up (upd X r c z) r c = if up then z else 3168 + f r c - z := by unfold rc upd; simp
theorem cr_upd_at {r c : Nat} {z : Int} : cr f up (upd X r c z) r c = if up then 3168 + f r c - z else z := by unfold cr upd; simp
theorem upd_at (g : Nat → Nat → Int) (u v : Nat) (z : Int) : upd g u v z u v = z := by unfold upd; simp
theorem upd_ne {g : Nat → Nat → Int} {u v u' v' : Nat} {z : Int} (hne : ¬ (u' = u ∧ v' = v)) : upd g u v z u' v' = g u' v' := by unfold upd; rw [if_neg hne]
/-- The room between two other places is as it was. -/
theorem roomG_upd {u' v' r c : Nat} {z : Int} (h1 : ¬ (u' = r ∧ v' = h + c)) (h2 : ¬ (u' = h + c ∧ v' = r)) (_hr : r < h) : roomG h f b i j up (upd X r c z) u' v' = roomG h f b i j up X u' v' := by
  unfold roomG
  by_cases q1 : u' < h
  · rw [if_pos q1, if_pos q1]
    by_cases q2 : h ≤ v'
    · rw [if_pos q2, if_pos q2, rc_upd (fun e => h1 ⟨e.1, by omega⟩)]
    · rw [if_neg q2, if_neg q2]
  · rw [if_neg q1, if_neg q1]
    by_cases q2 : v' < h
    · rw [if_pos q2, if_pos q2, cr_upd (fun e => h2 ⟨by omega, e.1⟩)]
    · rw [if_neg q2, if_neg q2]
/-- d is the change of the cell (i, j), e that of the room. -/
def sgn (up : Bool) (e : Int) : Int := if up then e else -e
theorem room_step {y : Nat → Nat → Int} {u v : Nat} (hE : Open h m b i j up y u v) (e : Int) :
    upd (upd (roomG h f b i j up X) u v (roomG h f b i j up X u v - e)) v u (roomG h f b i j up X v u + e) = roomG h f b i j up (upd X (cellR u v) (cellC h u v) (X (cellR u v) (cellC h u v) + (if u < h then -(sgn up e) else sgn up e))) := by
  funext u' v'
  rcases hE with ⟨hu, hv, hvm, hb, hne, _⟩ | ⟨hu, hum, hv, hb, hne, _⟩
  · obtain ⟨e1, e2⟩ := cell_row hu hv
    have hh : hid b i j u (v - h) = true := hid_iff.2 ⟨hb, hne⟩
    have hvh : h + (v - h) = v := by omega
    rw [e1, e2, if_pos hu]
    by_cases q1 : u' = v ∧ v' = u
    · obtain ⟨rfl, rfl⟩ := q1
      rw [upd_at, roomG_cr hv hu hh, roomG_cr hv hu hh, cr_upd_at]
      unfold cr sgn
      cases up <;> simp <;> omega
    · rw [upd_ne q1]
      by_cases q2 : u' = u ∧ v' = v
      · obtain ⟨rfl, rfl⟩ := q2
        rw [upd_at, roomG_rc hu hv hh, roomG_rc hu hv hh, rc_upd_at]
        unfold rc sgn
        cases up <;> simp <;> omega
      · rw [upd_ne q2, roomG_upd (by rw [hvh]; exact q2) (by rw [hvh]; exact q1) hu]
  · obtain ⟨e1, e2⟩ := cell_col hu hv
    have hh : hid b i j v (u - h) = true := hid_iff.2 ⟨hb, hne⟩
    have hvh : h + (u - h) = u := by omega
    rw [e1, e2, if_neg (by omega : ¬ u < h)]
    by_cases q1 : u' = v ∧ v' = u
    · obtain ⟨rfl, rfl⟩ := q1
      rw [upd_at, roomG_rc hv hu hh, roomG_rc hv hu hh, rc_upd_at]
      unfold rc sgn
      cases up <;> simp <;> omega
    · rw [upd_ne q1]
      by_cases q2 : u' = u ∧ v' = v
      · obtain ⟨rfl, rfl⟩ := q2
        rw [upd_at, roomG_cr hu hv hh, roomG_cr hu hv hh, cr_upd_at]
        unfold cr sgn
        cases up <;> simp <;> omega
      · rw [upd_ne q2, roomG_upd (by rw [hvh]; exact q1) (by rw [hvh]; exact q2) hv]
/-- Where the cell of a step is as it was, so is its room. -/
theorem room_old {y : Nat → Nat → Int} {u v : Nat} (hE : Open h m b i j up y u v) (ho : X (cellR u v) (cellC h u v) = x (cellR u v) (cellC h u v)) : roomG h f b i j up X u v = roomG h f b i j up x u v ∧ roomG h f b i j up X v u = roomG h f b i j up x v u := by
  rcases hE with ⟨hu, hv, hvm, hb, hne, _⟩ | ⟨hu, hum, hv, hb, hne, _⟩
  · obtain ⟨e1, e2⟩ := cell_row hu hv
    have hh : hid b i j u (v - h) = true := hid_iff.2 ⟨hb, hne⟩
    rw [e1, e2] at ho
    rw [roomG_rc hu hv hh, roomG_rc hu hv hh, roomG_cr hv hu hh, roomG_cr hv hu hh]
    unfold rc cr; rw [ho]; exact ⟨rfl, rfl⟩
  · obtain ⟨e1, e2⟩ := cell_col hu hv
    have hh : hid b i j v (u - h) = true := hid_iff.2 ⟨hb, hne⟩
    rw [e1, e2] at ho
    rw [roomG_cr hu hv hh, roomG_cr hu hv hh, roomG_rc hv hu hh, roomG_rc hv hu hh]
    unfold rc cr; rw [ho]; exact ⟨rfl, rfl⟩
theorem room_bd (hs : Small h m f) (hx : Near h m f b i j x) {u v : Nat} (hu : u < h + m) (hv : v < h + m) : 0 ≤ roomG h f b i j up x u v ∧ roomG h f b i j up x u v ≤ 4000 := by
  unfold roomG
  by_cases h1 : u < h
  · rw [if_pos h1]
    split
    · split
      · rename_i h2 h3
        have ho := hx.other hs h1 (show v - h < m by omega) (hid_iff.1 h3).2
        have hf := hs.2.2 u (v - h) h1 (by omega)
        unfold rc; split <;> omega
      · omega
    · omega
  · rw [if_neg h1]
    split
    · split
      · rename_i h2 h3
        have ho := hx.other hs h2 (show u - h < m by omega) (hid_iff.1 h3).2
        have hf := hs.2.2 v (u - h) h2 (by omega)
        unfold cr; split <;> omega
      · omega
    · omega
/-- e can be moved from i to p. -/
inductive Path (R : Nat → Nat → Int) (P : Nat → Int) (i : Nat) (e : Int) : Nat → Prop
  | here : Path R P i e i
  | step {p : Nat} : p ≠ i → e ≤ R (P p).toNat p → Path R P i e (P p).toNat → Path R P i e p
theorem Path.next {R : Nat → Nat → Int} {P : Nat → Int} {i p : Nat} {e : Int} (h : Path R P i e p) (hp : p ≠ i) : e ≤ R (P p).toNat p ∧ Path R P i e (P p).toNat := by
  cases h with
  | here => exact absurd rfl hp
  | step _ h1 h2 => exact ⟨h1, h2⟩
/-- The number of a hidden cell stays where it may be once it is changed. -/
theorem back_pos {e : Int} {u v : Nat} (_hs : Small h m f) (hx : Near h m f b i j x) (hE : Open h m b i j up x u v) (ho : X (cellR u v) (cellC h u v) = x (cellR u v) (cellC h u v)) (he : 0 ≤ e) (hr : e ≤ roomG h f b i j up x u v) :
    0 ≤ X (cellR u v) (cellC h u v) + (if u < h then -(sgn up e) else sgn up e) := by
  rw [ho]
  rcases hE with ⟨hu, hv, hvm, hb, hne, _⟩ | ⟨hu, hum, hv, hb, hne, _⟩
  · obtain ⟨e1, e2⟩ := cell_row hu hv
    have hp := hx.pos u (v - h) hu (by omega) hne
    rw [roomG_rc hu hv (hid_iff.2 ⟨hb, hne⟩)] at hr
    rw [e1, e2, if_pos hu]
    unfold sgn; unfold rc at hr
    cases up <;> simp at hr ⊢ <;> omega
  · obtain ⟨e1, e2⟩ := cell_col hu hv
    have hp := hx.pos v (u - h) hv (by omega) hne
    rw [roomG_cr hu hv (hid_iff.2 ⟨hb, hne⟩)] at hr
    rw [e1, e2, if_neg (by omega)]
    unfold sgn; unfold cr at hr
    cases up <;> simp at hr ⊢ <;> omega
end
end Go.DC
