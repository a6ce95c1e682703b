import Derived.Test.YtdljbmgknhbceaaQx45
import Derived.Test.YtdljbmgknhbceaaMc
namespace Go.Proofs.Ytdljbmgknhbceaa.Pure
open Go.RowKit Go.Proofs.YtdljbmgknhbceaaW.PrintWords Go.Proofs.Ytdljbmgknhbceaa.Q Go.Proofs.Ytdljbmgknhbceaa.P
set_option linter.unusedVariables false
set_option linter.unusedSimpArgs false
theorem refCycle_eq (t : List (List Int)) (len : Nat) (hne : A.cycleOf t len ≠ []) : ∀ (m a : Nat), a ≤ len → len < a + m → (∀ l, a ≤ l → l < len → A.cycleOf t l = []) → A.refCycle t m a = A.cycleOf t len := by
  intro m
  induction m with
  | zero => intro a h1 h2; omega
  | succ m ih =>
    intro a h1 h2 h
    rw [A.refCycle]
    by_cases e : a = len
    · subst e; rw [if_neg hne]
    · rw [if_pos (h a (Nat.le_refl _) (by omega))]
      exact ih (a + 1) (by omega) (by omega) (fun l l1 l2 => h l (by omega) l2)
theorem ref_len {n : Nat} (len : Nat) (h2 : 2 ≤ len) (hn : len ≤ n) : ∀ (g : Nat) (t : List (List Int)) (f : Nat), A.Good n t → (∀ l, 2 ≤ l → l < len → A.cycleOf t l = []) → A.phi t < g → A.phi t < f →
    ∃ f', A.phi (A.cancelLen len g t) < f' ∧ A.refC f t = A.refC f' (A.cancelLen len g t) := by
  intro g
  induction g with
  | zero => intro t f hg hs h; omega
  | succ g ih =>
    intro t f hg hs hgp hf
    rw [A.cancelLen]
    by_cases e : A.cycleOf t len = []
    · rw [if_pos e]
      exact ⟨f, hf, rfl⟩
    · rw [if_neg e]
      obtain ⟨f1, rfl⟩ : ∃ f1, f = f1 + 1 := ⟨f - 1, by omega⟩
      have hc := (A.cycle_cyc hg len (by omega) e).1
      have hL := Less.once hg hc
      have hp := A.cancel_good hg hc
      have hr : A.refCycle t (t.length - 1) 2 = A.cycleOf t len := refCycle_eq t len e _ 2 h2 (by rw [hg.1.1]; omega) hs
      have e1 : A.refC (f1 + 1) t = A.refC f1 (A.cancelOnce t (A.cycleOf t len)) := by rw [A.refC, hr, if_neg e]
      rw [e1]
      exact ih _ f1 hp.1 (fun l l1 l2 => cycle_mono hg hL l (hs l l1 l2)) (by omega) (by omega)
theorem ref_from {n : Nat} : ∀ (k len : Nat) (t : List (List Int)) (f : Nat), A.Good n t → 2 ≤ len → n + 1 ≤ len + k → len + k ≤ max 2 (n + 1) → (∀ l, 2 ≤ l → l < len → A.cycleOf t l = []) → A.phi t < f → A.refC f t = A.cancelFrom k len t := by
  intro k
  induction k with
  | zero =>
    intro len t f hg h2 hn hm hs hf
    obtain ⟨f1, rfl⟩ : ∃ f1, f = f1 + 1 := ⟨f - 1, by omega⟩
    have : A.refCycle t (t.length - 1) 2 = [] := A.refCycle_none t _ 2 (fun l l1 l2 => hs l l1 (by have := hg.1.1; omega))
    rw [A.refC, if_pos this]
    rfl
  | succ k ih =>
    intro len t f hg h2 hn hm hs hf
    obtain ⟨f', h1, h3⟩ := ref_len len h2 (by omega) (A.phi t + 1) t f hg hs (by omega) hf
    have hL := Less.len len (by omega) (A.phi t + 1) t hg
    rw [h3, A.cancelFrom]
    refine ih (len + 1) _ f' hL.good (by omega) (by omega) (by omega) (fun l l1 l2 => ?_) h1
    by_cases e : l = len
    · subst e; exact len_done l (by omega) _ t hg (by omega)
    · exact cycle_mono hg hL l (hs l l1 (by omega))
theorem quotaCancels (t : List (List Int)) (_h0 : ∀ row ∈ t, ∀ x ∈ row, (Lit.int .i64 x).wf = true) (hb : t.length ≤ 9223372036854775807) : ∃ k, kinkeeplaw35_QuotaCancels.f k t = some true := by
  by_cases hl : (t.length : Int) > 14
  · cases hv : A.validT t with
    | true => have := (A.valid_sq hv).1; omega
    | false =>
      obtain ⟨k1, e1⟩ := valid_f t hb
      rw [hv] at e1
      have m1 := more (f := fun k => kinkeepref35_Valid.f k t) (fun k => kinkeepref35_Valid.mono t k) (show k1 ≤ k1 + 1 by omega) e1
      refine ⟨k1 + 1, ?_⟩
      simp only [kinkeeplaw35_QuotaCancels.f, kinkeeplaw35_awake.f, Option.bind_some, if_true, m1, Bool.false_eq_true, if_false, decide_eq_true hl, kinkeeplaw35_QuotaCancels.j0]
  · obtain ⟨k1, e1⟩ := valid_f t (by omega)
    cases hv : A.validT t with
    | false =>
      rw [hv] at e1
      have m1 := more (f := fun k => kinkeepref35_Valid.f k t) (fun k => kinkeepref35_Valid.mono t k) (show k1 ≤ k1 + 1 by omega) e1
      have e : A.cancelOut t = ([], 1) := by simp [A.cancelOut, hv]
      refine ⟨k1 + 1, ?_⟩
      simp only [kinkeeplaw35_QuotaCancels.f, kinkeeplaw35_awake.f, Option.bind_some, if_true, m1, Bool.false_eq_true, if_false, decide_eq_false hl, kinkeeplaw35_QuotaCancels.j0, quota_Cancel.f, e, e1]
      rfl
    | true =>
      rw [hv] at e1
      by_cases h6 : (t.length : Int) > 6
      · refine ⟨k1 + 1, ?_⟩
        have m1 := more (f := fun k => kinkeepref35_Valid.f k t) (fun k => kinkeepref35_Valid.mono t k) (show k1 ≤ k1 + 1 by omega) e1
        simp only [kinkeeplaw35_QuotaCancels.f, kinkeeplaw35_awake.f, Option.bind_some, if_true, m1, if_pos h6, kinkeeplaw35_QuotaCancels.j0]
      · have hg := A.valid_good hv
        have h12 := (A.valid_sq hv).1
        have e : A.cancelOut t = (A.cancelT t, 0) := by simp [A.cancelOut, hv]
        have er : A.refC (A.phi t + 1) t = A.cancelT t := ref_from (n := t.length) (t.length - 1) 2 t _ hg (by omega) (by omega) (by omega) (fun l l1 l2 => by omega) (by omega)
        have hL : Less t.length t (A.cancelT t) := Less.from (t.length - 1) 2 (by omega) t hg
        obtain ⟨k2, e2⟩ := same_f (A.cancelT t) (A.cancelT t) (by have := hL.good.1.1; omega) (fun i hi => by have h1 := hL.good.1.1; have := hL.good.1.2 i (by omega) (by omega); omega)
        rw [decide_eq_true rfl] at e2
        have m1 := more (f := fun k => kinkeepref35_Valid.f k t) (fun k => kinkeepref35_Valid.mono t k) (show k1 ≤ k1 + k2 + 1 by omega) e1
        have m1' := more (f := fun k => kinkeepref35_Valid.f k t) (fun k => kinkeepref35_Valid.mono t k) (show k1 ≤ k1 + k2 by omega) e1
        have m2 := more (f := fun k => kinkeepref35_Same.f k (A.cancelT t) (A.cancelT t)) (fun k => kinkeepref35_Same.mono _ _ k) (show k2 ≤ k1 + k2 by omega) e2
        refine ⟨k1 + k2 + 1, ?_⟩
        simp only [kinkeeplaw35_QuotaCancels.f, kinkeeplaw35_awake.f, Option.bind_some, if_true, m1, if_neg h6, decide_eq_false hl, kinkeeplaw35_QuotaCancels.j0, quota_Cancel.f, e, m1', kinkeepref35_Cancel.f, hv, er, m2]
        rfl
end Go.Proofs.Ytdljbmgknhbceaa.Pure
