import Derived.Test.YtdljbmgknhbceaaBc
namespace Go.Proofs.Ytdljbmgknhbceaa.A
open Go.RowKit Go.Proofs.YtdljbmgknhbceaaW.PrintWords Go.Proofs.YtdljbmgknhbceaaW.PrintLast Go.Proofs.YtdljbmgknhbceaaW.PrintMore Go.Proofs.Ytdljbmgknhbceaa.Q
set_option linter.unusedVariables false
set_option linter.unusedSimpArgs false

/-! ### plain facts: tables -/
theorem rd_set (l : List Int) (i j x : Int) (i0 : 0 ≤ i) (i1 : i < l.length) (j0 : 0 ≤ j) : rd (l.set i.toNat x) j = if j = i then x else rd l j := by
  unfold rd
  rw [List.getD_eq_getElem?_getD, List.getElem?_set]
  by_cases h : j = i
  · subst h; simp [show j.toNat < l.length by omega]
  · rw [if_neg (by omega), if_neg h, List.getD_eq_getElem?_getD]
theorem rdL_set (t : List (List Int)) (i j : Int) (r : List Int) (i0 : 0 ≤ i) (i1 : i < t.length) (j0 : 0 ≤ j) : rd_L1 (t.set i.toNat r) j = if j = i then r else rd_L1 t j := by
  unfold rd_L1
  rw [List.getD_eq_getElem?_getD, List.getElem?_set]
  by_cases h : j = i
  · subst h; simp [show j.toNat < t.length by omega]
  · rw [if_neg (by omega), if_neg h, List.getD_eq_getElem?_getD]
theorem get_upd {n : Nat} {t : List (List Int)} (h : Sqn n t) (i j x a b : Int) (i0 : 0 ≤ i) (i1 : i < n) (j0 : 0 ≤ j) (j1 : j < n) (a0 : 0 ≤ a) (b0 : 0 ≤ b) :
    get (upd t i j x) a b = if a = i ∧ b = j then x else get t a b := by
  unfold get upd
  rw [rdL_set t i a _ i0 (by rw [h.1]; exact i1) a0]
  by_cases ha : a = i
  · subst ha
    rw [if_pos rfl, rd_set _ j b x j0 (by rw [h.2 a a0 i1]; exact j1) b0]
    by_cases hb : b = j
    · simp [hb]
    · simp [hb]
  · simp [ha]

/-- A table of n rows of n numbers from 0 to MaxCount. -/
def Good (n : Nat) (t : List (List Int)) : Prop := Sqn n t ∧ ∀ i j : Int, 0 ≤ i → i < n → 0 ≤ j → j < n → 0 ≤ get t i j ∧ get t i j ≤ 1099511627776
theorem wrap_small {x : Int} (h0 : -1099511627776 ≤ x) (h1 : x ≤ 1099511627776) : wrap64 x = x := by unfold wrap64; omega

/-! ### sums over a table -/
def rowSum : List Int → Nat
  | [] => 0
  | x :: xs => x.toNat + rowSum xs
def phi : List (List Int) → Nat
  | [] => 0
  | r :: rs => rowSum r + phi rs
theorem rowSum_set (l : List Int) (j : Nat) (x : Int) (h : j < l.length) : rowSum (l.set j x) + (l[j]).toNat = rowSum l + x.toNat := by
  induction l generalizing j with
  | nil => simp at h
  | cons y ys ih =>
    cases j with
    | zero => simp [rowSum]; omega
    | succ j =>
      simp only [List.set_cons_succ, rowSum, List.getElem_cons_succ]
      have := ih j (by simpa using h)
      omega
theorem phi_set (t : List (List Int)) (i : Nat) (r : List Int) (h : i < t.length) : phi (t.set i r) + rowSum t[i] = phi t + rowSum r := by
  induction t generalizing i with
  | nil => simp at h
  | cons y ys ih =>
    cases i with
    | zero => simp [phi]; omega
    | succ j =>
      simp only [List.set_cons_succ, phi, List.getElem_cons_succ]
      have := ih j (by simpa using h)
      omega
theorem phi_upd {n : Nat} {t : List (List Int)} (h : Sqn n t) (i j x : Int) (i0 : 0 ≤ i) (i1 : i < n) (j0 : 0 ≤ j) (j1 : j < n) : phi (upd t i j x) + (get t i j).toNat = phi t + x.toNat := by
  have hi : i.toNat < t.length := by rw [h.1]; omega
  have he : rd_L1 t i = t[i.toNat] := by simp [rd_L1, List.getD_eq_getElem?_getD, List.getElem?_eq_getElem hi]
  have hj : j.toNat < (t[i.toNat]).length := by rw [← he, h.2 i i0 i1]; omega
  have hg : get t i j = (t[i.toNat])[j.toNat] := by
    unfold get
    rw [he]
    simp [rd, List.getD_eq_getElem?_getD, List.getElem?_eq_getElem hj]
  have h1 := phi_set t i.toNat ((t[i.toNat]).set j.toNat x) hi
  have h2 := rowSum_set (t[i.toNat]) j.toNat x hj
  unfold upd
  rw [he, hg]
  omega

/-! ### the first cycle -/
theorem firstOf_mem (F : Int → List Int) (ds : List Int) (h : firstOf F ds ≠ []) : ∃ d ∈ ds, firstOf F ds = F d ∧ F d ≠ [] := by
  induction ds with
  | nil => exact absurd rfl h
  | cons d ds ih =>
    cases hd : F d with
    | nil =>
      rw [firstOf_no F d ds hd] at h ⊢
      obtain ⟨e, he, h1, h2⟩ := ih h
      exact ⟨e, List.mem_cons_of_mem _ he, h1, h2⟩
    | cons x xs =>
      rw [firstOf_yes F d ds x xs hd]
      exact ⟨d, List.mem_cons_self, hd.symm, by rw [hd]; simp⟩
theorem firstOf_nil (F : Int → List Int) (ds : List Int) (h : firstOf F ds = []) : ∀ d ∈ ds, F d = [] := by
  induction ds with
  | nil => intro d hd; cases hd
  | cons d ds ih =>
    cases hd : F d with
    | nil =>
      rw [firstOf_no F d ds hd] at h
      intro e he
      rcases List.mem_cons.1 he with rfl | he
      · exact hd
      · exact ih h e he
    | cons x xs => rw [firstOf_yes F d ds x xs hd] at h; cases h
theorem mem_upTo (a : Int) (n : Nat) (d : Int) (a0 : 0 ≤ a) : d ∈ upTo a n ↔ a ≤ d ∧ d < n := by
  unfold upTo
  simp only [List.mem_map, List.mem_range]
  constructor
  · rintro ⟨i, hi, rfl⟩; omega
  · rintro ⟨h1, h2⟩; exact ⟨(d - a).toNat, by omega, by omega⟩

/-- A path: different devices, the first the least, each stores something for the next one. -/
structure Path (n : Nat) (t : List (List Int)) (c : List Int) : Prop where
  ins : ∀ i : Int, 0 ≤ i → i < c.length → 0 ≤ rd c i ∧ rd c i < n
  dif : ∀ i j : Int, 0 ≤ i → i < c.length → 0 ≤ j → j < c.length → rd c i = rd c j → i = j
  edge : ∀ i : Int, 0 ≤ i → i + 1 < c.length → 0 < get t (rd c i) (rd c (i + 1))
theorem contains_rd (c : List Int) (x : Int) : c.contains x = true ↔ ∃ i : Int, 0 ≤ i ∧ i < c.length ∧ rd c i = x := by
  rw [List.contains_iff_mem, List.mem_iff_getElem]
  constructor
  · rintro ⟨i, hi, rfl⟩
    exact ⟨i, by omega, by omega, by simp [rd, List.getD_eq_getElem?_getD, List.getElem?_eq_getElem hi]⟩
  · rintro ⟨i, i0, i1, rfl⟩
    exact ⟨i.toNat, by omega, by simp [rd, List.getD_eq_getElem?_getD, List.getElem?_eq_getElem (show i.toNat < c.length by omega)]⟩
theorem Path.snoc {n : Nat} {t : List (List Int)} {c : List Int} (h : Path n t c) (hc : 0 < c.length) (d : Int) (d0 : 0 ≤ d) (d1 : d < n) (hn : c.contains d = false) (he : 0 < get t (rd c ((c.length : Int) - 1)) d) : Path n t (c ++ [d]) := by
  have hl : (c ++ [d]).length = c.length + 1 := by simp
  have hnot : ∀ i : Int, 0 ≤ i → i < c.length → rd c i ≠ d := by
    intro i i0 i1 e
    have : c.contains d = true := (contains_rd c d).2 ⟨i, i0, i1, e⟩
    rw [hn] at this; cases this
  have hr : ∀ i : Int, 0 ≤ i → i < c.length → rd (c ++ [d]) i = rd c i := fun i i0 i1 => rd_left c d i i0 i1
  have hd : rd (c ++ [d]) c.length = d := rd_right c d
  refine ⟨fun i i0 i1 => ?_, fun i j i0 i1 j0 j1 e => ?_, fun i i0 i1 => ?_⟩
  · rw [hl] at i1
    by_cases hi : i < c.length
    · rw [hr i i0 hi]; exact h.ins i i0 hi
    · obtain rfl : i = c.length := by omega
      rw [hd]; exact ⟨d0, d1⟩
  · rw [hl] at i1 j1
    by_cases hi : i < c.length
    · rw [hr i i0 hi] at e
      by_cases hj : j < c.length
      · rw [hr j j0 hj] at e; exact h.dif i j i0 hi j0 hj e
      · obtain rfl : j = c.length := by omega
        rw [hd] at e; exact absurd e (hnot i i0 hi)
    · obtain rfl : i = c.length := by omega
      by_cases hj : j < c.length
      · rw [hr j j0 hj, hd] at e; exact absurd e.symm (hnot j j0 hj)
      · omega
  · rw [hl] at i1
    rw [hr i i0 (by omega)]
    by_cases hi : i + 1 < c.length
    · rw [hr (i + 1) (by omega) hi]; exact h.edge i i0 hi
    · have : i + 1 = c.length := by omega
      rw [this, hd]
      rw [show i = (c.length : Int) - 1 from by omega]
      exact he
theorem ext_path {n : Nat} {t : List (List Int)} (hg : Good n t) (len : Nat) : ∀ (f : Nat) (p : List Int), p.length + f = len → 0 < p.length → Path n t p → ext t len f p ≠ [] →
    Path n t (ext t len f p) ∧ (ext t len f p).length = len ∧ 0 < get t (last (ext t len f p)) (rd (ext t len f p) 0) ∧ rd (ext t len f p) 0 = rd p 0 := by
  intro f
  induction f with
  | zero =>
    intro p hl hp hP hne
    rw [ext] at hne ⊢
    by_cases h : 0 < rd (rd_L1 t (last p)) (rd p 0)
    · rw [if_pos h]
      exact ⟨hP, by omega, h, rfl⟩
    · rw [if_neg h] at hne; exact absurd rfl hne
  | succ f ih =>
    intro p hl hp hP hne
    rw [ext] at hne ⊢
    obtain ⟨d, hd, he, hne2⟩ := firstOf_mem _ _ hne
    rw [he]
    have hp0 := hP.ins 0 (by omega) (by omega)
    rw [mem_upTo _ _ _ (by omega)] at hd
    rw [hg.1.1] at hd
    by_cases hc : rd (rd_L1 t (last p)) d = 0 ∨ p.contains d = true
    · simp only [if_pos hc] at hne2; exact absurd rfl hne2
    · simp only [if_neg hc] at hne2 ⊢
      have hc1 : rd (rd_L1 t (last p)) d ≠ 0 := fun e => hc (.inl e)
      have hc2 : p.contains d = false := by
        cases h : p.contains d with
        | true => exact absurd (.inr h) hc
        | false => rfl
      have hL := hP.ins ((p.length : Int) - 1) (by omega) (by omega)
      have hpos : 0 < get t (rd p ((p.length : Int) - 1)) d := by
        have := hg.2 (rd p ((p.length : Int) - 1)) d hL.1 hL.2 (by omega) hd.2
        have h2 : get t (rd p ((p.length : Int) - 1)) d ≠ 0 := hc1
        omega
      obtain ⟨h1, h2, h3, h4⟩ := ih (p ++ [d]) (by simp; omega) (by simp) (hP.snoc hp d (by omega) hd.2 hc2 hpos) hne2
      exact ⟨h1, h2, h3, by rw [h4, rd_left p d 0 (by omega) (by omega)]⟩
theorem single_path (n : Nat) (t : List (List Int)) (d : Int) (d0 : 0 ≤ d) (d1 : d < n) : Path n t [d] := by
  have hr : ∀ i : Int, 0 ≤ i → i < ([d] : List Int).length → i = 0 := by intro i i0 i1; simp at i1; omega
  refine ⟨fun i i0 i1 => ?_, fun i j i0 i1 j0 j1 _ => ?_, fun i i0 i1 => ?_⟩
  · obtain rfl := hr i i0 i1; exact ⟨d0, d1⟩
  · rw [hr i i0 i1, hr j j0 j1]
  · simp at i1; omega
theorem cycle_path {n : Nat} {t : List (List Int)} (hg : Good n t) (len : Nat) (hlen : 1 ≤ len) (hne : cycleOf t len ≠ []) :
    Path n t (cycleOf t len) ∧ (cycleOf t len).length = len ∧ 0 < get t (last (cycleOf t len)) (rd (cycleOf t len) 0) := by
  unfold cycleOf at hne ⊢
  obtain ⟨d, hd, he, hne2⟩ := firstOf_mem _ _ hne
  rw [he]
  rw [mem_upTo _ _ _ (by omega), hg.1.1] at hd
  obtain ⟨h1, h2, h3, _⟩ := ext_path hg len (len - 1) [d] (by simp; omega) (by simp) (single_path n t d hd.1 hd.2) hne2
  exact ⟨h1, h2, h3⟩

/-! ### to cancel a cycle -/
def nxt (c : List Int) (i : Nat) : Int := rd c (((i + 1) % c.length : Nat) : Int)
def leastTo (t : List (List Int)) (c : List Int) : Nat → Int
  | 0 => 1099511627776
  | i + 1 => min (leastTo t c i) (get t (rd c i) (nxt c i))
def subTo (t : List (List Int)) (c : List Int) (l : Int) : Nat → List (List Int)
  | 0 => t
  | i + 1 => upd (subTo t c l i) (rd c i) (nxt c i) (wrap64 (get (subTo t c l i) (rd c i) (nxt c i) - l))
def cancelOnce (t : List (List Int)) (c : List Int) : List (List Int) := subTo t c (leastTo t c c.length) c.length

/-- A cycle of a table. -/
structure Cyc (n : Nat) (t : List (List Int)) (c : List Int) : Prop where
  ins : ∀ i : Nat, i < c.length → 0 ≤ rd c i ∧ rd c i < n
  dif : ∀ i j : Nat, i < c.length → j < c.length → rd c i = rd c j → i = j
  edge : ∀ i : Nat, i < c.length → 0 < get t (rd c i) (nxt c i)
  pos : 0 < c.length
theorem nxt_in {n : Nat} {t : List (List Int)} {c : List Int} (h : Cyc n t c) (i : Nat) : 0 ≤ nxt c i ∧ nxt c i < n := h.ins _ (Nat.mod_lt _ h.pos)
theorem cycle_cyc {n : Nat} {t : List (List Int)} (hg : Good n t) (len : Nat) (hlen : 1 ≤ len) (hne : cycleOf t len ≠ []) : Cyc n t (cycleOf t len) ∧ (cycleOf t len).length = len := by
  obtain ⟨h1, h2, h3⟩ := cycle_path hg len hlen hne
  refine ⟨⟨fun i hi => h1.ins i (by omega) (by omega), fun i j hi hj e => ?_, fun i hi => ?_, by omega⟩, h2⟩
  · have := h1.dif i j (by omega) (by omega) (by omega) (by omega) e
    omega
  · unfold nxt
    by_cases h : i + 1 < (cycleOf t len).length
    · rw [Nat.mod_eq_of_lt h]
      exact h1.edge i (by omega) (by omega)
    · have : i + 1 = (cycleOf t len).length := by omega
      rw [this, Nat.mod_self]
      have e : (i : Int) = ((cycleOf t len).length : Int) - 1 := by omega
      rw [e]
      exact h3
theorem least_le (t : List (List Int)) (c : List Int) (m i : Nat) (h : i < m) : leastTo t c m ≤ get t (rd c i) (nxt c i) := by
  induction m with
  | zero => omega
  | succ m ih =>
    rw [leastTo]
    by_cases e : i = m
    · subst e; omega
    · have := ih (by omega); omega
theorem least_pos {n : Nat} {t : List (List Int)} {c : List Int} (h : Cyc n t c) (m : Nat) (hm : m ≤ c.length) : 0 < leastTo t c m ∧ leastTo t c m ≤ 1099511627776 := by
  induction m with
  | zero => simp [leastTo]
  | succ m ih =>
    rw [leastTo]
    have := h.edge m (by omega)
    have := ih (by omega)
    omega
/-- The table after some numbers of the cycle were lowered. -/
theorem sub_get {n : Nat} {t : List (List Int)} {c : List Int} (hg : Good n t) (h : Cyc n t c) (l : Int) (l0 : 0 ≤ l) (m : Nat) (hm : m ≤ c.length) (hl : ∀ i, i < m → l ≤ get t (rd c i) (nxt c i)) :
    Sqn n (subTo t c l m) ∧ ∀ a b : Int, 0 ≤ a → a < n → 0 ≤ b → b < n →
      ((∃ i, i < m ∧ a = rd c i ∧ b = nxt c i) → get (subTo t c l m) a b = get t a b - l) ∧ ((¬ ∃ i, i < m ∧ a = rd c i ∧ b = nxt c i) → get (subTo t c l m) a b = get t a b) := by
  induction m with
  | zero => exact ⟨hg.1, fun a b _ _ _ _ => ⟨fun ⟨i, hi, _⟩ => by omega, fun _ => rfl⟩⟩
  | succ m ih =>
    obtain ⟨h1, h2⟩ := ih (by omega) (fun i hi => hl i (by omega))
    have hi1 := h.ins m (by omega)
    have hi2 := nxt_in h m
    have hno : ¬ ∃ i, i < m ∧ rd c m = rd c i ∧ nxt c m = nxt c i := by
      rintro ⟨i, hi, e, _⟩
      have := h.dif m i (by omega) (by omega) e
      omega
    have hold : get (subTo t c l m) (rd c m) (nxt c m) = get t (rd c m) (nxt c m) := (h2 _ _ hi1.1 hi1.2 hi2.1 hi2.2).2 hno
    have hb := hg.2 _ _ hi1.1 hi1.2 hi2.1 hi2.2
    have hlm := hl m (by omega)
    refine ⟨h1.upd _ _ _, fun a b a0 a1 b0 b1 => ?_⟩
    have hu := get_upd h1 (rd c m) (nxt c m) (wrap64 (get (subTo t c l m) (rd c m) (nxt c m) - l)) a b hi1.1 hi1.2 hi2.1 hi2.2 a0 b0
    rw [subTo, hu, hold, wrap_small (by omega) (by omega)]
    constructor
    · rintro ⟨i, hi, ea, eb⟩
      by_cases e : i = m
      · subst e; rw [if_pos ⟨ea, eb⟩, ea, eb]
      · rw [if_neg]
        · exact (h2 a b a0 a1 b0 b1).1 ⟨i, by omega, ea, eb⟩
        · rintro ⟨ea', _⟩
          exact hno ⟨i, by omega, by rw [← ea', ea], by
            have := h.dif m i (by omega) (by omega) (by rw [← ea', ea])
            omega⟩
    · intro hn
      rw [if_neg]
      · exact (h2 a b a0 a1 b0 b1).2 (fun ⟨i, hi, e⟩ => hn ⟨i, by omega, e⟩)
      · rintro ⟨ea, eb⟩
        exact hn ⟨m, by omega, ea, eb⟩
theorem sub_phi {n : Nat} {t : List (List Int)} {c : List Int} (hg : Good n t) (h : Cyc n t c) (l : Int) (l0 : 0 < l) (m : Nat) (hm : m ≤ c.length) (hl : ∀ i, i < m → l ≤ get t (rd c i) (nxt c i)) : phi (subTo t c l m) + m ≤ phi t := by
  induction m with
  | zero => exact Nat.le_refl _
  | succ m ih =>
    have ih := ih (by omega) (fun i hi => hl i (by omega))
    obtain ⟨h1, h2⟩ := sub_get hg h l (by omega) m (by omega) (fun i hi => hl i (by omega))
    have hi1 := h.ins m (by omega)
    have hi2 := nxt_in h m
    have hno : ¬ ∃ i, i < m ∧ rd c m = rd c i ∧ nxt c m = nxt c i := by
      rintro ⟨i, hi, e, _⟩
      have := h.dif m i (by omega) (by omega) e
      omega
    have hold : get (subTo t c l m) (rd c m) (nxt c m) = get t (rd c m) (nxt c m) := (h2 _ _ hi1.1 hi1.2 hi2.1 hi2.2).2 hno
    have hb := hg.2 _ _ hi1.1 hi1.2 hi2.1 hi2.2
    have hlm := hl m (by omega)
    have hp := phi_upd h1 (rd c m) (nxt c m) (wrap64 (get (subTo t c l m) (rd c m) (nxt c m) - l)) hi1.1 hi1.2 hi2.1 hi2.2
    rw [subTo]
    rw [hold, wrap_small (by omega) (by omega)] at hp ⊢
    omega
theorem cancel_good {n : Nat} {t : List (List Int)} {c : List Int} (hg : Good n t) (h : Cyc n t c) : Good n (cancelOnce t c) ∧ phi (cancelOnce t c) < phi t := by
  have hl := least_pos h c.length (Nat.le_refl _)
  have hle : ∀ i, i < c.length → leastTo t c c.length ≤ get t (rd c i) (nxt c i) := fun i hi => least_le t c _ i hi
  obtain ⟨h1, h2⟩ := sub_get hg h _ (by omega) c.length (Nat.le_refl _) hle
  have h3 := sub_phi hg h _ hl.1 c.length (Nat.le_refl _) hle
  have := h.pos
  refine ⟨⟨h1, fun a b a0 a1 b0 b1 => ?_⟩, by unfold cancelOnce; omega⟩
  have hb := hg.2 a b a0 a1 b0 b1
  by_cases he : ∃ i, i < c.length ∧ a = rd c i ∧ b = nxt c i
  · have := (h2 a b a0 a1 b0 b1).1 he
    obtain ⟨i, hi, rfl, rfl⟩ := he
    have := hle i hi
    unfold cancelOnce
    omega
  · have := (h2 a b a0 a1 b0 b1).2 he
    unfold cancelOnce
    omega

/-- All cycles of one length are cancelled; fuel: the sum of the table. -/
def cancelLen (len : Nat) : Nat → List (List Int) → List (List Int)
  | 0, t => t
  | f + 1, t => if cycleOf t len = [] then t else cancelLen len f (cancelOnce t (cycleOf t len))
def cancelFrom : Nat → Nat → List (List Int) → List (List Int)
  | 0, _, t => t
  | k + 1, len, t => cancelFrom k (len + 1) (cancelLen len (phi t + 1) t)
def cancelT (t : List (List Int)) : List (List Int) := cancelFrom (t.length - 1) 2 t
def cancelOut (t : List (List Int)) : List (List Int) × Int := if validT t = true then (cancelT t, 0) else ([], 1)
theorem cancelLen_good {n : Nat} (len : Nat) (hlen : 1 ≤ len) : ∀ (f : Nat) (t : List (List Int)), Good n t → Good n (cancelLen len f t) := by
  intro f
  induction f with
  | zero => intro t h; exact h
  | succ f ih =>
    intro t h
    rw [cancelLen]
    split
    · exact h
    · rename_i hne
      exact ih _ (cancel_good h (cycle_cyc h len hlen hne).1).1
theorem valid_good {t : List (List Int)} (h : validT t = true) : Good t.length t := by
  refine ⟨⟨rfl, fun i i0 i1 => rowlen h i i0 i1⟩, fun i j i0 i1 j0 j1 => ?_⟩
  have hm : rd_L1 t i ∈ t := by
    unfold rd_L1
    rw [List.getD_eq_getElem?_getD, List.getElem?_eq_getElem (by omega)]
    exact List.getElem_mem _
  have hr := (valid_sq h).2 _ hm
  have hb := hr.2
  rw [badAny, List.any_eq_false] at hb
  have hj : j.toNat < (rd_L1 t i).length := by rw [hr.1]; omega
  have := hb ((rd_L1 t i)[j.toNat]) (List.getElem_mem hj)
  have e : get t i j = (rd_L1 t i)[j.toNat] := by
    unfold get
    rw [rd, List.getD_eq_getElem?_getD, List.getElem?_eq_getElem hj]
    rfl
  rw [e]
  simpa [okN] using this

end Go.Proofs.Ytdljbmgknhbceaa.A
