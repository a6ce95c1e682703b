import Derived.Test.YtdljbmgknhbceaaPl
namespace Go.Proofs.Ytdljbmgknhbceaa.P
open Go.RowKit Go.Proofs.YtdljbmgknhbceaaW.PrintWords Go.Proofs.Ytdljbmgknhbceaa.Q
set_option linter.unusedVariables false
set_option linter.unusedSimpArgs false
set_option linter.unusedSectionVars false

/-! ### balances and cancelling -/
def B (n : Nat) (t : List (List Int)) (d : Nat) : Int := isum (fun i => A.get t i d) n - isum (fun j => A.get t d j) n
theorem B_upd {n : Nat} {t : List (List Int)} (h : A.Sqn n t) (p q : Nat) (hp : p < n) (hq : q < n) (v : Int) (d : Nat) (hd : d < n) :
    B n (A.upd t p q v) d = B n t d + (if d = q then v - A.get t p q else 0) - (if d = p then v - A.get t p q else 0) := by
  have hu : ∀ a b : Nat, A.get (A.upd t p q v) a b = if a = p ∧ b = q then v else A.get t a b := fun a b => by
    rw [A.get_upd h p q v a b (by omega) (by omega) (by omega) (by omega) (by omega) (by omega)]
    simp only [Int.natCast_inj]
  have col : isum (fun i => A.get (A.upd t p q v) i d) n = isum (fun i => A.get t i d) n + (if d = q then v - A.get t p q else 0) := by
    by_cases e : d = q
    · subst e
      rw [if_pos rfl, isum_congr (g := fun i => A.get t i d + (if i = p then v - A.get t p d else 0)) (fun i _ => by
        rw [hu i d]
        by_cases ei : i = p
        · rw [if_pos ⟨ei, rfl⟩, if_pos ei, ei]; omega
        · rw [if_neg (fun h => ei h.1), if_neg ei]; omega), isum_add, isum_pt, if_pos hp]
    · rw [if_neg e, isum_congr (g := fun i => A.get t i d) (fun i _ => by rw [hu i d, if_neg (fun h => e h.2)])]; omega
  have row : isum (fun j => A.get (A.upd t p q v) d j) n = isum (fun j => A.get t d j) n + (if d = p then v - A.get t p q else 0) := by
    by_cases e : d = p
    · subst e
      rw [if_pos rfl, isum_congr (g := fun j => A.get t d j + (if j = q then v - A.get t d q else 0)) (fun j _ => by
        rw [hu d j]
        by_cases ej : j = q
        · rw [if_pos ⟨rfl, ej⟩, if_pos ej, ej]; omega
        · rw [if_neg (fun h => ej h.2), if_neg ej]; omega), isum_add, isum_pt, if_pos hq]
    · rw [if_neg e, isum_congr (g := fun j => A.get t d j) (fun j _ => by rw [hu d j, if_neg (fun h => e h.1)])]; omega
  unfold B
  rw [col, row]
  omega
theorem isum_shift (f : Nat → Int) : ∀ n, isum (fun i => f (i + 1)) n + f 0 = isum f (n + 1) := by
  intro n
  induction n with
  | zero => simp [isum]
  | succ n ih =>
    have e : isum f (n + 1 + 1) = isum f (n + 1) + f (n + 1) := rfl
    have e2 : isum (fun i => f (i + 1)) (n + 1) = isum (fun i => f (i + 1)) n + f (n + 1) := rfl
    rw [e, e2, ← ih]; omega
/-- What the lowering of a cycle's first numbers does to a balance. -/
theorem B_sub {n : Nat} {t : List (List Int)} {c : List Int} (hg : A.Good n t) (h : A.Cyc n t c) (l : Int) (l0 : 0 ≤ l) (d : Nat) (hd : d < n) : ∀ m : Nat, m ≤ c.length → (∀ i, i < m → l ≤ A.get t (rd c i) (A.nxt c i)) →
    B n (A.subTo t c l m) d = B n t d - isum (fun i => if A.nxt c i = (d : Int) then l else 0) m + isum (fun i => if rd c i = (d : Int) then l else 0) m := by
  intro m
  induction m with
  | zero => intro _ _; simp [A.subTo, isum]
  | succ m ih =>
    intro hm hl
    have ih := ih (by omega) (fun i hi => hl i (by omega))
    obtain ⟨h1, h2⟩ := A.sub_get hg h l l0 m (by omega) (fun i hi => hl i (by omega))
    have hi1 := h.ins m (by omega)
    have hi2 := A.nxt_in h m
    have hno : ¬ ∃ i, i < m ∧ rd c m = rd c i ∧ A.nxt c m = A.nxt c i := by
      rintro ⟨i, hi, e, _⟩
      have := h.dif m i (by omega) (by omega) e
      omega
    have hold : A.get (A.subTo t c l m) (rd c m) (A.nxt c m) = A.get t (rd c m) (A.nxt c m) := (h2 _ _ hi1.1 hi1.2 hi2.1 hi2.2).2 hno
    have hb := hg.2 _ _ hi1.1 hi1.2 hi2.1 hi2.2
    have hlm := hl m (by omega)
    rw [A.subTo, hold, A.wrap_small (by omega) (by omega)]
    obtain ⟨p, hp⟩ := Int.eq_ofNat_of_zero_le hi1.1
    obtain ⟨q, hq⟩ := Int.eq_ofNat_of_zero_le hi2.1
    have e1 : isum (fun i => if A.nxt c i = (d : Int) then l else 0) (m + 1) = isum (fun i => if A.nxt c i = (d : Int) then l else 0) m + (if d = q then l else 0) := by
      rw [isum, hq]
      by_cases e : d = q
      · rw [if_pos e, if_pos (by omega)]
      · rw [if_neg e, if_neg (by omega)]
    have e2 : isum (fun i => if rd c i = (d : Int) then l else 0) (m + 1) = isum (fun i => if rd c i = (d : Int) then l else 0) m + (if d = p then l else 0) := by
      rw [isum, hp]
      by_cases e : d = p
      · rw [if_pos e, if_pos (by omega)]
      · rw [if_neg e, if_neg (by omega)]
    rw [e1, e2]
    rw [hp, hq] at hold ⊢
    rw [B_upd h1 p q (by omega) (by omega) _ d hd, ih, hold]
    by_cases c1 : d = q
    · by_cases c2 : d = p
      · simp only [if_pos c1, if_pos c2]; omega
      · simp only [if_pos c1, if_neg c2]; omega
    · by_cases c2 : d = p
      · simp only [if_neg c1, if_pos c2]; omega
      · simp only [if_neg c1, if_neg c2]; omega
theorem B_once {n : Nat} {t : List (List Int)} {c : List Int} (hg : A.Good n t) (h : A.Cyc n t c) (d : Nat) (hd : d < n) : B n (A.cancelOnce t c) d = B n t d := by
  have hl := A.least_pos h c.length (Nat.le_refl _)
  have hle : ∀ i, i < c.length → A.leastTo t c c.length ≤ A.get t (rd c i) (A.nxt c i) := fun i hi => A.least_le t c _ i hi
  have key := B_sub hg h _ (Int.le_of_lt hl.1) d hd c.length (Nat.le_refl _) hle
  have hp := h.pos
  obtain ⟨L, hL⟩ : ∃ L, c.length = L + 1 := ⟨c.length - 1, by omega⟩
  have sh := isum_shift (fun i => if rd c i = (d : Int) then A.leastTo t c c.length else 0) L
  have e1 : isum (fun i => if A.nxt c i = (d : Int) then A.leastTo t c c.length else 0) (L + 1) = isum (fun i => if rd c i = (d : Int) then A.leastTo t c c.length else 0) (L + 1) := by
    rw [← sh]
    have e2 : isum (fun i => if A.nxt c i = (d : Int) then A.leastTo t c c.length else 0) (L + 1) = isum (fun i => if A.nxt c i = (d : Int) then A.leastTo t c c.length else 0) L + (if A.nxt c L = (d : Int) then A.leastTo t c c.length else 0) := rfl
    have e3 : A.nxt c L = rd c ((0 : Nat) : Int) := by unfold A.nxt; rw [hL, Nat.mod_self]
    rw [e2, e3]
    congr 1
    refine isum_congr (fun i hi => ?_)
    have : A.nxt c i = rd c ((i + 1 : Nat) : Int) := by unfold A.nxt; rw [Nat.mod_eq_of_lt (by omega)]
    rw [this]
  rw [A.cancelOnce, key]
  rw [hL] at *
  rw [e1]
  omega

/-! ### what holds along the cancelling -/
structure Less (n : Nat) (t s : List (List Int)) : Prop where
  good : A.Good n s
  bal : ∀ d : Nat, d < n → B n s d = B n t d
  le : ∀ i j : Int, 0 ≤ i → i < n → 0 ≤ j → j < n → A.get s i j ≤ A.get t i j
theorem Less.refl {n : Nat} {t : List (List Int)} (h : A.Good n t) : Less n t t := ⟨h, fun _ _ => rfl, fun _ _ _ _ _ _ => Int.le_refl _⟩
theorem Less.trans {n : Nat} {t s r : List (List Int)} (h : Less n t s) (h' : Less n s r) : Less n t r :=
  ⟨h'.good, fun d hd => (h'.bal d hd).trans (h.bal d hd), fun i j a b c d => Int.le_trans (h'.le i j a b c d) (h.le i j a b c d)⟩
theorem Less.once {n : Nat} {t c} (hg : A.Good n t) (h : A.Cyc n t c) : Less n t (A.cancelOnce t c) := by
  refine ⟨(A.cancel_good hg h).1, fun d hd => B_once hg h d hd, fun a b a0 a1 b0 b1 => ?_⟩
  have hl := A.least_pos h c.length (Nat.le_refl _)
  obtain ⟨h1, h2⟩ := A.sub_get hg h _ (Int.le_of_lt hl.1) c.length (Nat.le_refl _) (fun i hi => A.least_le t c _ i hi)
  unfold A.cancelOnce
  by_cases he : ∃ i, i < c.length ∧ a = rd c i ∧ b = A.nxt c i
  · rw [(h2 a b a0 a1 b0 b1).1 he]; omega
  · rw [(h2 a b a0 a1 b0 b1).2 he]; omega
theorem Less.len {n : Nat} (len : Nat) (hlen : 1 ≤ len) : ∀ (f : Nat) (t : List (List Int)), A.Good n t → Less n t (A.cancelLen len f t) := by
  intro f
  induction f with
  | zero => intro t h; exact .refl h
  | succ f ih =>
    intro t h
    rw [A.cancelLen]
    split
    · exact .refl h
    · rename_i hne
      have hc := (A.cycle_cyc h len hlen hne).1
      exact (Less.once h hc).trans (ih _ (A.cancel_good h hc).1)
theorem Less.from {n : Nat} : ∀ (k len : Nat), 1 ≤ len → ∀ t : List (List Int), A.Good n t → Less n t (A.cancelFrom k len t) := by
  intro k
  induction k with
  | zero => intro len hlen t h; exact .refl h
  | succ k ih =>
    intro len hlen t h
    rw [A.cancelFrom]
    have h1 := Less.len len hlen (A.phi t + 1) t h
    exact h1.trans (ih (len + 1) (by omega) _ h1.good)
/-- Enough fuel: no cycle of the length is left. -/
theorem len_done {n : Nat} (len : Nat) (hlen : 1 ≤ len) : ∀ (f : Nat) (t : List (List Int)), A.Good n t → A.phi t < f → A.cycleOf (A.cancelLen len f t) len = [] := by
  intro f
  induction f with
  | zero => intro t h hf; omega
  | succ f ih =>
    intro t h hf
    rw [A.cancelLen]
    split
    · rename_i he; exact he
    · rename_i hne
      have hc := A.cancel_good h (A.cycle_cyc h len hlen hne).1
      exact ih _ hc.1 (by omega)

/-! ### cycles of a lesser table -/
theorem get_oob {n : Nat} {s : List (List Int)} (h : A.Sqn n s) (a b : Int) (hne : A.get s a b ≠ 0) : a.toNat < n ∧ b.toNat < n := by
  have ha : a.toNat < n := by
    by_cases e : a.toNat < n
    · exact e
    · exfalso; apply hne
      unfold A.get rd_L1
      rw [List.getD_eq_getElem?_getD, List.getElem?_eq_none (by rw [h.1]; omega)]
      simp [rd]
  refine ⟨ha, ?_⟩
  by_cases e : b.toNat < n
  · exact e
  · exfalso; apply hne
    have hl := h.2 (a.toNat : Int) (by omega) (by omega)
    have er : rd_L1 s (a.toNat : Int) = rd_L1 s a := by unfold rd_L1; rw [Int.toNat_natCast]
    rw [er] at hl
    unfold A.get
    rw [rd, List.getD_eq_getElem?_getD, List.getElem?_eq_none (by omega)]
    rfl
theorem get_nat (s : List (List Int)) (a b : Int) : A.get s a b = A.get s (a.toNat : Int) (b.toNat : Int) := by
  unfold A.get rd_L1 rd; rw [Int.toNat_natCast, Int.toNat_natCast]
theorem pos_mono {n : Nat} {t s : List (List Int)} (ht : A.Good n t) (h : Less n t s) (a b : Int) (hne : A.get s a b ≠ 0) : 0 < A.get t a b := by
  obtain ⟨ha, hb⟩ := get_oob h.good.1 a b hne
  rw [get_nat] at hne ⊢
  have h1 := h.good.2 a.toNat b.toNat (by omega) (by omega) (by omega) (by omega)
  have h2 := h.le a.toNat b.toNat (by omega) (by omega) (by omega) (by omega)
  omega
theorem firstOf_some (F : Int → List Int) (ds : List Int) (d : Int) (hd : d ∈ ds) (h : F d ≠ []) : A.firstOf F ds ≠ [] := fun e => h (A.firstOf_nil F ds e d hd)
theorem ext_mono {s t : List (List Int)} (hl : s.length = t.length) (hp : ∀ a b : Int, A.get s a b ≠ 0 → 0 < A.get t a b) (len : Nat) : ∀ (f : Nat) (p : List Int), A.ext s len f p ≠ [] → A.ext t len f p ≠ [] := by
  intro f
  induction f with
  | zero =>
    intro p h
    rw [A.ext] at h ⊢
    by_cases c : 0 < rd (rd_L1 s (A.last p)) (rd p 0)
    · rw [if_pos c] at h
      have : 0 < A.get t (A.last p) (rd p 0) := hp _ _ (by show rd (rd_L1 s (A.last p)) (rd p 0) ≠ 0; omega)
      rw [if_pos (show 0 < rd (rd_L1 t (A.last p)) (rd p 0) from this)]
      exact h
    · rw [if_neg c] at h; exact absurd rfl h
  | succ f ih =>
    intro p h
    rw [A.ext] at h ⊢
    obtain ⟨d, hd, he, hne⟩ := A.firstOf_mem _ _ h
    rw [hl] at hd
    refine firstOf_some _ _ d hd ?_
    by_cases c : rd (rd_L1 s (A.last p)) d = 0 ∨ p.contains d = true
    · simp only [if_pos c] at hne; exact absurd rfl hne
    · simp only [if_neg c] at hne
      have h1 : 0 < A.get t (A.last p) d := hp _ _ (fun e => c (.inl e))
      have h2 : ¬ (rd (rd_L1 t (A.last p)) d = 0 ∨ p.contains d = true) := by
        rintro (e | e)
        · have : A.get t (A.last p) d = 0 := e
          omega
        · exact c (.inr e)
      simp only [if_neg h2]
      exact ih _ hne
theorem cycle_mono {n : Nat} {t s : List (List Int)} (ht : A.Good n t) (h : Less n t s) (len : Nat) (hz : A.cycleOf t len = []) : A.cycleOf s len = [] := by
  by_cases e : A.cycleOf s len = []
  · exact e
  · exfalso
    unfold A.cycleOf at e hz
    obtain ⟨d, hd, he, hne⟩ := A.firstOf_mem _ _ e
    have hl : s.length = t.length := by rw [h.good.1.1, ht.1.1]
    rw [hl] at hd
    exact firstOf_some _ _ d hd (ext_mono hl (pos_mono ht h) len _ _ hne) hz
theorem from_done {n : Nat} : ∀ (k len : Nat), 1 ≤ len → ∀ t : List (List Int), A.Good n t → ∀ m : Nat, len ≤ m → m < len + k → A.cycleOf (A.cancelFrom k len t) m = [] := by
  intro k
  induction k with
  | zero => intro len hlen t h m h1 h2; omega
  | succ k ih =>
    intro len hlen t h m h1 h2
    rw [A.cancelFrom]
    have hL := Less.len len hlen (A.phi t + 1) t h
    by_cases e : m = len
    · subst e
      exact cycle_mono hL.good (Less.from k (m + 1) (by omega) _ hL.good) m (len_done m hlen _ t h (by omega))
    · exact ih (len + 1) (by omega) _ hL.good m (by omega) (by omega)
/-- A table without cycles is left as it is. -/
theorem from_none : ∀ (k len : Nat) (t : List (List Int)), (∀ m : Nat, len ≤ m → m < len + k → A.cycleOf t m = []) → A.cancelFrom k len t = t := by
  intro k
  induction k with
  | zero => intro len t h; rfl
  | succ k ih =>
    intro len t h
    rw [A.cancelFrom, A.cancelLen, if_pos (h len (Nat.le_refl _) (by omega))]
    exact ih (len + 1) t (fun m h1 h2 => h m (by omega) (by omega))

/-! ### a cycle is found -/
structure FCyc (n : Nat) (t : List (List Int)) (L : Nat) (g : Nat → Int) : Prop where
  ins : ∀ k, k < L → 0 ≤ g k ∧ g k < n
  dif : ∀ j k, j < L → k < L → g j = g k → j = k
  edge : ∀ k, k + 1 < L → 0 < A.get t (g k) (g (k + 1))
  back : 0 < A.get t (g (L - 1)) (g 0)
  pos : 0 < L
theorem rd_map (g : Nat → Int) (m i : Nat) (h : i < m) : rd ((List.range m).map g) i = g i := by
  rw [rd_eq _ i (by simpa using h)]; simp
theorem found {n : Nat} {t : List (List Int)} {L : Nat} {g : Nat → Int} (hn : t.length = n) (h : FCyc n t L g) (hmin : ∀ k, 0 < k → k < L → g 0 < g k) : A.cycleOf t L ≠ [] := by
  have hp := h.pos
  have key : ∀ (f m : Nat), m + f = L → 1 ≤ m → A.ext t L f ((List.range m).map g) ≠ [] := by
    intro f
    induction f with
    | zero =>
      intro m hm h1
      obtain rfl : m = L := by omega
      rw [A.ext]
      have e1 : A.last ((List.range m).map g) = g (m - 1) := by
        unfold A.last
        rw [List.length_map, List.length_range, show ((m : Int) - 1) = ((m - 1 : Nat) : Int) from by omega, rd_map g m (m - 1) (by omega)]
      have e2 : rd ((List.range m).map g) 0 = g 0 := rd_map g m 0 (by omega)
      have hb : 0 < rd (rd_L1 t (A.last ((List.range m).map g))) (rd ((List.range m).map g) 0) := by rw [e1, e2]; exact h.back
      rw [if_pos hb]
      intro e
      have : ((List.range m).map g).length = 0 := by rw [e]; rfl
      simp at this
      omega
    | succ f ih =>
      intro m hm h1
      rw [A.ext]
      have e1 : A.last ((List.range m).map g) = g (m - 1) := by
        unfold A.last
        rw [List.length_map, List.length_range, show ((m : Int) - 1) = ((m - 1 : Nat) : Int) from by omega, rd_map g m (m - 1) (by omega)]
      have e2 : rd ((List.range m).map g) 0 = g 0 := rd_map g m 0 (by omega)
      have i0 := h.ins 0 hp
      have im := h.ins m (by omega)
      have hlt := hmin m (by omega) (by omega)
      refine firstOf_some _ _ (g m) ((A.mem_upTo _ _ _ (by rw [e2]; omega)).2 ⟨by rw [e2]; omega, by omega⟩) ?_
      have he := h.edge (m - 1) (by omega)
      rw [show m - 1 + 1 = m from by omega] at he
      have hno : ¬ (rd (rd_L1 t (A.last ((List.range m).map g))) (g m) = 0 ∨ ((List.range m).map g).contains (g m) = true) := by
        rintro (e | e)
        · rw [e1] at e
          have : A.get t (g (m - 1)) (g m) = 0 := e
          omega
        · rw [List.contains_iff_mem, List.mem_map] at e
          obtain ⟨i, hi, e⟩ := e
          have hi := List.mem_range.1 hi
          have := h.dif i m (by omega) (by omega) e
          omega
      simp only [if_neg hno]
      have := ih (m + 1) (by omega) (by omega)
      rw [List.range_succ, List.map_append] at this
      exact this
  have h1 := key (L - 1) 1 (by omega) (Nat.le_refl _)
  have i0 := h.ins 0 hp
  unfold A.cycleOf
  exact firstOf_some _ _ (g 0) ((A.mem_upTo _ _ _ (by omega)).2 ⟨i0.1, by omega⟩) h1
theorem argmin (g : Nat → Int) : ∀ L : Nat, 0 < L → ∃ m, m < L ∧ ∀ k, k < L → g m ≤ g k := by
  intro L
  induction L with
  | zero => intro h; omega
  | succ L ih =>
    intro _
    by_cases h0 : L = 0
    · subst h0; exact ⟨0, by omega, fun k hk => by obtain rfl : k = 0 := by omega
                                                   exact Int.le_refl _⟩
    · obtain ⟨m, hm, h⟩ := ih (by omega)
      by_cases c : g L < g m
      · refine ⟨L, by omega, fun k hk => ?_⟩
        by_cases e : k = L
        · rw [e]; exact Int.le_refl _
        · have := h k (by omega); omega
      · refine ⟨m, by omega, fun k hk => ?_⟩
        by_cases e : k = L
        · rw [e]; omega
        · exact h k (by omega)
theorem rot {n : Nat} {t : List (List Int)} {L : Nat} {g : Nat → Int} (h : FCyc n t L g) (m : Nat) (hm : m < L) : FCyc n t L (fun k => if m + k < L then g (m + k) else g (m + k - L)) := by
  refine ⟨fun k hk => ?_, fun j k hj hk e => ?_, fun k hk => ?_, ?_, h.pos⟩
  · try simp only
    by_cases c : m + k < L
    · rw [if_pos c]; exact h.ins _ c
    · rw [if_neg c]; exact h.ins _ (by omega)
  · try simp only at e
    by_cases c : m + j < L
    · rw [if_pos c] at e
      by_cases c' : m + k < L
      · rw [if_pos c'] at e; have := h.dif _ _ c c' e; omega
      · rw [if_neg c'] at e; have := h.dif _ _ c (by omega) e; omega
    · rw [if_neg c] at e
      by_cases c' : m + k < L
      · rw [if_pos c'] at e; have := h.dif _ _ (by omega) c' e; omega
      · rw [if_neg c'] at e; have := h.dif _ _ (by omega) (by omega) e; omega
  · try simp only
    by_cases c : m + (k + 1) < L
    · rw [if_pos c, if_pos (by omega)]
      exact h.edge (m + k) (by omega)
    · rw [if_neg c]
      by_cases c' : m + k < L
      · rw [if_pos c']
        have e1 : m + k = L - 1 := by omega
        have e2 : m + (k + 1) - L = 0 := by omega
        rw [e1, e2]; exact h.back
      · rw [if_neg c', show m + (k + 1) - L = m + k - L + 1 from by omega]
        exact h.edge _ (by omega)
  · simp only [Nat.add_zero]
    rw [if_pos hm]
    by_cases c : m = 0
    · subst c
      have := h.pos
      rw [if_pos (by omega), Nat.zero_add]; exact h.back
    · rw [if_neg (by omega), show m + (L - 1) - L = m - 1 from by omega]
      have := h.edge (m - 1) (by omega)
      rw [show m - 1 + 1 = m from by omega] at this
      exact this
theorem found_any {n : Nat} {t : List (List Int)} {L : Nat} {g : Nat → Int} (hn : t.length = n) (h : FCyc n t L g) : A.cycleOf t L ≠ [] := by
  obtain ⟨m, hm, hmin⟩ := argmin g L h.pos
  refine found hn (rot h m hm) (fun k k0 k1 => ?_)
  simp only [Nat.add_zero]
  rw [if_pos hm]
  by_cases c : m + k < L
  · rw [if_pos c]
    have h1 := hmin (m + k) c
    have h2 : g m ≠ g (m + k) := fun e => by have := h.dif _ _ hm c e; omega
    omega
  · rw [if_neg c]
    have h1 := hmin (m + k - L) (by omega)
    have h2 : g m ≠ g (m + k - L) := fun e => by have := h.dif _ _ hm (by omega) e; omega
    omega

/-! ### a closed set holds a cycle -/
theorem pigeon : ∀ (n : Nat) (f : Nat → Nat), (∀ i, i ≤ n → f i < n) → ∃ i j, i < j ∧ j ≤ n ∧ f i = f j := by
  intro n
  induction n with
  | zero => intro f h; exact absurd (h 0 (Nat.le_refl _)) (by omega)
  | succ n ih =>
    intro f h
    by_cases c : ∃ i, i ≤ n ∧ f i = f (n + 1)
    · obtain ⟨i, hi, e⟩ := c
      exact ⟨i, n + 1, by omega, Nat.le_refl _, e⟩
    · have hne : ∀ i, i ≤ n → f i ≠ f (n + 1) := fun i hi e => c ⟨i, hi, e⟩
      obtain ⟨i, j, h1, h2, e⟩ := ih (fun i => if f (n + 1) < f i then f i - 1 else f i) (fun i hi => by
        have := h i (by omega)
        have := h (n + 1) (Nat.le_refl _)
        have := hne i hi
        try simp only
        split <;> omega)
      refine ⟨i, j, h1, by omega, ?_⟩
      have a := hne i (by omega)
      have b := hne j h2
      try simp only at e
      split at e <;> split at e <;> omega
def walk (N : Nat → Nat) (s : Nat) : Nat → Nat
  | 0 => s
  | k + 1 => N (walk N s k)
theorem first_back (f : Nat → Nat) : ∀ (m : Nat), (∃ i j, i < j ∧ j ≤ m ∧ f i = f j) → ∃ i j, i < j ∧ j ≤ m ∧ f i = f j ∧ ∀ a b, a < b → b < j → f a ≠ f b := by
  intro m
  induction m with
  | zero => rintro ⟨i, j, h1, h2, _⟩; omega
  | succ m ih =>
    intro h
    by_cases c : ∃ i j, i < j ∧ j ≤ m ∧ f i = f j
    · obtain ⟨i, j, h1, h2, h3, h4⟩ := ih c
      exact ⟨i, j, h1, by omega, h3, h4⟩
    · obtain ⟨i, j, h1, h2, h3⟩ := h
      exact ⟨i, j, h1, h2, h3, fun a b hab hb e => c ⟨a, b, hab, by omega, e⟩⟩
theorem closed_cycle {n : Nat} {t : List (List Int)} (hg : A.Good n t) (hd : ∀ i : Nat, i < n → A.get t i i = 0) (S : Nat → Prop) (s : Nat) (hs : S s ∧ s < n) (hS : ∀ h, S h → h < n → ∃ o, S o ∧ o < n ∧ A.get t (h : Nat) (o : Nat) ≠ 0) :
    ∃ L g, FCyc n t L g ∧ 2 ≤ L ∧ L ≤ n := by
  have hN : ∀ h : Nat, ∃ o : Nat, S h ∧ h < n → S o ∧ o < n ∧ A.get t (h : Nat) (o : Nat) ≠ 0 := fun h => by
    by_cases c : S h ∧ h < n
    · obtain ⟨o, ho⟩ := hS h c.1 c.2
      exact ⟨o, fun _ => ho⟩
    · exact ⟨0, fun h' => absurd h' c⟩
  obtain ⟨N, hN⟩ := Classical.axiomOfChoice hN
  have hw : ∀ k, S (walk N s k) ∧ walk N s k < n := by
    intro k
    induction k with
    | zero => exact hs
    | succ k ih => exact ⟨(hN _ ih).1, (hN _ ih).2.1⟩
  obtain ⟨i, j, h1, h2, h3, h4⟩ := first_back (walk N s) n (pigeon n _ (fun i _ => (hw i).2))
  have he : ∀ k, 0 < A.get t (walk N s k : Nat) (walk N s (k + 1) : Nat) := fun k => by
    have a := (hN _ (hw k)).2.2
    have b := hg.2 (walk N s k : Nat) (walk N s (k + 1) : Nat) (by omega) (by have := (hw k).2; omega) (by omega) (by have := (hw (k + 1)).2; omega)
    have c : A.get t (walk N s k : Nat) (walk N s (k + 1) : Nat) ≠ 0 := a
    omega
  have dif : ∀ a b, a < j → b < j → walk N s a = walk N s b → a = b := fun a b ha hb e => by
    by_cases c : a < b
    · exact absurd e (h4 a b c hb)
    · by_cases c' : b < a
      · exact absurd e.symm (h4 b a c' ha)
      · omega
  refine ⟨j - i, fun k => (walk N s (i + k) : Nat), ⟨fun k hk => ⟨by omega, by have := (hw (i + k)).2; omega⟩, fun a b ha hb e => ?_, fun k hk => he (i + k), ?_, by omega⟩, ?_, by omega⟩
  · have := dif (i + a) (i + b) (by omega) (by omega) (by omega)
    omega
  · simp only [Nat.add_zero]
    have := he (i + (j - i - 1))
    rw [show i + (j - i - 1) + 1 = j from by omega, ← h3] at this
    exact this
  · by_cases c : j - i = 1
    · exfalso
      obtain rfl : j = i + 1 := by omega
      have a := he i
      rw [← h3, hd _ (hw i).2] at a
      omega
    · omega
end Go.Proofs.Ytdljbmgknhbceaa.P
