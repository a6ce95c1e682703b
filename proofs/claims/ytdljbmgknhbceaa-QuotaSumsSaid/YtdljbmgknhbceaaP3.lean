import Derived.Test.YtdljbmgknhbceaaP1
namespace Go.Proofs.Ytdljbmgknhbceaa.P
open Go.RowKit Go.Proofs.YtdljbmgknhbceaaW.PrintWords Go.Proofs.Ytdljbmgknhbceaa.Q
set_option linter.unusedVariables false
set_option linter.unusedSimpArgs false

/-! ### low -/
def lowB (t : List (List Int)) (M : Int) : Bool := t.all fun row => decide (row.length ≤ 14) && row.all fun x => decide (x ≤ M)
theorem low_l1 (t : List (List Int)) (n M : Int) (ht : t.length ≤ 4611686018427387904) (i : Nat) (hi : i < t.length) (row : List Int) (hrow : row = rd_L1 t i) (hl : row.length ≤ 14) (b : Bool) (hb : ∃ k, kinkeeplaw35_low.l0 k t n M ((i + 1 : Nat) : Int) = some b) :
    ∀ (m j : Nat), row.length - j ≤ m → j ≤ row.length → ∃ k, kinkeeplaw35_low.l1 k t n M (i : Int) (j : Int) = some ((row.drop j).all (fun x => decide (x ≤ M)) && b) := by
  intro m
  have hwi : wrap64 ((i : Int) + 1) = ((i + 1 : Nat) : Int) := by rw [w64 (by omega)]; rfl
  have c0 : (0 : Int) ≤ (i : Int) := by omega
  have c1 : (i : Int) < (t.length : Int) := by omega
  have ends : ∀ j, row.length ≤ j → ∃ k, kinkeeplaw35_low.l1 k t n M (i : Int) (j : Int) = some ((row.drop j).all (fun x => decide (x ≤ M)) && b) := by
    intro j hj
    obtain ⟨k, hk⟩ := hb
    refine ⟨k + 1, ?_⟩
    rw [kinkeeplaw35_low.l1, if_pos c0, if_pos c1, ← hrow, if_neg (by omega), hwi, hk, List.drop_of_length_le hj]
    rfl
  induction m with
  | zero => intro j h1 h2; exact ends j (by omega)
  | succ m ih =>
    intro j h1 h2
    by_cases h : j < row.length
    · obtain ⟨k, hk⟩ := ih (j + 1) (by omega) (by omega)
      have hwj : wrap64 ((j : Int) + 1) = ((j + 1 : Nat) : Int) := by rw [w64 (by omega)]; rfl
      have e0 : row.drop j = row[j] :: row.drop (j + 1) := List.drop_eq_getElem_cons h
      refine ⟨k + 1, ?_⟩
      rw [kinkeeplaw35_low.l1, if_pos c0, if_pos c1, ← hrow, if_pos (by omega), if_pos (by omega), rd_eq row j h, hwj, hk, e0]
      by_cases hM : row[j] > M
      · rw [if_pos hM]
        have : ¬ row[j] ≤ M := by omega
        rw [List.all_cons, decide_eq_false this]; rfl
      · rw [if_neg hM]
        have : row[j] ≤ M := by omega
        rw [List.all_cons, decide_eq_true this]; rfl
    · exact ends j (by omega)
theorem low_l0 (t : List (List Int)) (n M : Int) (ht : t.length ≤ 4611686018427387904) : ∀ (m i : Nat), t.length - i ≤ m → i ≤ t.length → ∃ k, kinkeeplaw35_low.l0 k t n M (i : Int) = some (lowB (t.drop i) M && decide ((t.length : Int) ≤ n)) := by
  intro m
  have ends : ∀ i, t.length ≤ i → ∃ k, kinkeeplaw35_low.l0 k t n M (i : Int) = some (lowB (t.drop i) M && decide ((t.length : Int) ≤ n)) := by
    intro i hi
    refine ⟨1, ?_⟩
    rw [kinkeeplaw35_low.l0, if_neg (by omega), List.drop_of_length_le hi]
    rfl
  induction m with
  | zero => intro i h1 h2; exact ends i (by omega)
  | succ m ih =>
    intro i h1 h2
    by_cases h : i < t.length
    · have hn := ih (i + 1) (by omega) (by omega)
      have e0 : t.drop i = rd_L1 t i :: t.drop (i + 1) := by rw [rd1_eq t i h]; exact List.drop_eq_getElem_cons h
      by_cases hl : (rd_L1 t i).length ≤ 14
      · obtain ⟨k, hk⟩ := low_l1 t n M ht i h _ rfl hl _ hn _ 0 (Nat.le_refl _) (Nat.zero_le _)
        refine ⟨k + 1, ?_⟩
        rw [kinkeeplaw35_low.l0, if_pos (by omega), if_pos (by omega), if_neg (by omega)]
        refine Eq.trans hk ?_
        rw [e0]
        simp [lowB, hl, Bool.and_assoc]
      · refine ⟨1, ?_⟩
        rw [kinkeeplaw35_low.l0, if_pos (by omega), if_pos (by omega), if_pos (by omega), e0]
        simp [lowB, hl]
    · exact ends i (by omega)
theorem low_f (t : List (List Int)) (n M : Int) (ht : t.length ≤ 4611686018427387904) : ∃ k, kinkeeplaw35_low.f k t n M = some (lowB t M && decide ((t.length : Int) ≤ n)) := low_l0 t n M ht t.length 0 (by omega) (by omega)
theorem lowB_at {t : List (List Int)} {M : Int} (h : lowB t M = true) (i j : Nat) (hi : i < t.length) (hj : j < (rd_L1 t i).length) : A.get t i j ≤ M := by
  rw [lowB, List.all_eq_true] at h
  have h1 := h (rd_L1 t i) (by rw [rd1_eq t i hi]; exact List.getElem_mem hi)
  simp only [Bool.and_eq_true, decide_eq_true_eq, List.all_eq_true] at h1
  have := h1.2 ((rd_L1 t i)[j]) (List.getElem_mem hj)
  show rd (rd_L1 t i) j ≤ M
  rw [rd_eq _ j hj]
  exact this
end Go.Proofs.Ytdljbmgknhbceaa.P
