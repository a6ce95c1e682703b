import Derived.Test.YtdljbmgknhbceaaP1
namespace Go.Proofs.Ytdljbmgknhbceaa.P
open Go.RowKit Go.Proofs.YtdljbmgknhbceaaW.PrintWords Go.Proofs.Ytdljbmgknhbceaa.Q
set_option linter.unusedVariables false
set_option linter.unusedSimpArgs false

/-! ### validity, both ways -/
theorem rowsOk_of (t : List (List Int)) (n : Nat) (h : ∀ i : Nat, i < t.length → A.rowOk n i (rd_L1 t i) = true) : ∀ (m i : Nat), t.length - i ≤ m → i ≤ t.length → A.rowsOk n (t.drop i) i = true := by
  intro m
  induction m with
  | zero => intro i h1 h2; rw [List.drop_of_length_le (by omega)]; rfl
  | succ m ih =>
    intro i h1 h2
    by_cases hi : i < t.length
    · rw [A.rowsOk_drop _ _ _ hi, h i hi, ih (i + 1) (by omega) (by omega)]; rfl
    · rw [List.drop_of_length_le (by omega)]; rfl
theorem rowsOk_at (t : List (List Int)) (n : Nat) : ∀ (m i : Nat), i ≤ m → m < t.length → A.rowsOk n (t.drop i) i = true → A.rowOk n m (rd_L1 t m) = true := by
  intro m i hi hm h
  obtain ⟨d, hd⟩ : ∃ d, d = m - i := ⟨_, rfl⟩
  induction d generalizing i with
  | zero =>
    obtain rfl : i = m := by omega
    rw [A.rowsOk_drop _ _ _ hm, Bool.and_eq_true] at h
    exact h.1
  | succ d ih =>
    rw [A.rowsOk_drop _ _ _ (show i < t.length by omega), Bool.and_eq_true] at h
    exact ih (i + 1) (by omega) h.2 (by omega)
theorem valid_diag {t : List (List Int)} (h : A.validT t = true) (i : Nat) (hi : i < t.length) : A.get t i i = 0 := by
  rw [A.validT, Bool.and_eq_true] at h
  have := rowsOk_at t t.length i 0 (Nat.zero_le _) hi h.1
  simp only [A.rowOk, Bool.and_eq_true, decide_eq_true_eq] at this
  exact this.2.1
theorem bad_iff (l : List Int) : A.badAny l = false ↔ ∀ i : Nat, i < l.length → 0 ≤ rd l i ∧ rd l i ≤ 1099511627776 := by
  rw [A.badAny, List.any_eq_false]
  constructor
  · intro h i hi
    have := h _ (List.getElem_mem hi)
    rw [rd_eq l i hi]
    simpa [A.okN] using this
  · intro h x hx
    obtain ⟨i, hi, rfl⟩ := List.getElem_of_mem hx
    have := h i hi
    rw [rd_eq l i hi] at this
    simpa [A.okN] using this
theorem validT_of {t : List (List Int)} (h12 : t.length ≤ 12) (hl : ∀ i : Nat, i < t.length → (rd_L1 t i).length = t.length) (hd : ∀ i : Nat, i < t.length → A.get t i i = 0) (hb : ∀ i j : Nat, i < t.length → j < t.length → 0 ≤ A.get t i j ∧ A.get t i j ≤ 1099511627776) : A.validT t = true := by
  rw [A.validT, Bool.and_eq_true]
  refine ⟨?_, by simpa using h12⟩
  refine rowsOk_of t t.length (fun i hi => ?_) t.length 0 (by omega) (by omega)
  simp only [A.rowOk, Bool.and_eq_true, decide_eq_true_eq, Bool.not_eq_true']
  exact ⟨hl i hi, hd i hi, (bad_iff _).2 (fun j hj => hb i j hi (by rw [← hl i hi]; exact hj))⟩

/-! ### sums of sums -/
theorem isum_add (f g : Nat → Int) : ∀ n, isum (fun i => f i + g i) n = isum f n + isum g n := by
  intro n
  induction n with
  | zero => rfl
  | succ n ih => simp only [isum, ih]; omega
theorem isum_sub (f g : Nat → Int) : ∀ n, isum (fun i => f i - g i) n = isum f n - isum g n := by
  intro n
  induction n with
  | zero => rfl
  | succ n ih => simp only [isum, ih]; omega
theorem isum_zero : ∀ n, isum (fun _ => 0) n = 0 := by
  intro n
  induction n with
  | zero => rfl
  | succ n ih => simp only [isum, ih]; rfl
theorem isum_swap (f : Nat → Nat → Int) (n : Nat) : ∀ m, isum (fun i => isum (fun j => f i j) n) m = isum (fun j => isum (fun i => f i j) m) n := by
  intro m
  induction m with
  | zero => simp only [isum]; exact (isum_zero n).symm
  | succ m ih =>
    simp only [isum]
    rw [ih, ← isum_add]
theorem bF_all (t : List (List Int)) (d : Nat) (hd : d < t.length) : bF t t.length 0 d = isum (fun i => A.get t i d) t.length - isum (fun j => A.get t d j) t.length := by
  unfold bF
  rw [if_neg (by omega), if_pos hd]; omega
theorem bF_total (t : List (List Int)) : isum (fun d => bF t t.length 0 d) t.length = 0 := by
  rw [isum_congr (fun d hd => bF_all t d hd), isum_sub, isum_swap (fun d i => A.get t i d)]
  omega
end Go.Proofs.Ytdljbmgknhbceaa.P
