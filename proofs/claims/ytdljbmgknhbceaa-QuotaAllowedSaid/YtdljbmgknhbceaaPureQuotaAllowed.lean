import Derived.Test.YtdljbmgknhbceaaQx39
import Derived.Test.YtdljbmgknhbceaaPl
namespace Go.Proofs.Ytdljbmgknhbceaa.Pure
open Go.RowKit Go.Proofs.YtdljbmgknhbceaaW.PrintWords Go.Proofs.Ytdljbmgknhbceaa.Q Go.Proofs.Ytdljbmgknhbceaa.P
theorem allowed_bad (k : Nat) (t : List (List Int)) (q : List Int) (a h o : Int) (hb : A.allowedOk t q a h o = false) : kinkeeplaw35_QuotaAllowed.j1 (k + 1) t q a h o (A.allowedOut t q a h o).1 (A.allowedOut t q a h o).2 true = some true := by
  have e : A.allowedOut t q a h o = (0, 1) := by simp [A.allowedOut, hb]
  rw [kinkeeplaw35_QuotaAllowed.j1, e]
  rfl
theorem quotaAllowed (t : List (List Int)) (q : List Int) (a h o : Int) (_h0 : ∀ row ∈ t, ∀ x ∈ row, (Lit.int .i64 x).wf = true) (_h1 : ∀ x ∈ q, (Lit.int .i64 x).wf = true)
    (_h2 : (Lit.int .i64 a).wf = true) (_h3 : (Lit.int .i64 h).wf = true) (_h4 : (Lit.int .i64 o).wf = true) : ∃ k, kinkeeplaw35_QuotaAllowed.f k t q a h o = some true := by
  by_cases hl : (t.length : Int) > 14
  · refine ⟨1, ?_⟩
    simp only [kinkeeplaw35_QuotaAllowed.f, kinkeeplaw35_awake.f, Option.bind_some, if_true, if_pos hl, kinkeeplaw35_QuotaAllowed.j0]
  · by_cases hq : (q.length : Int) > 20
    · refine ⟨1, ?_⟩
      simp only [kinkeeplaw35_QuotaAllowed.f, kinkeeplaw35_awake.f, Option.bind_some, if_true, if_neg hl, decide_eq_true hq, kinkeeplaw35_QuotaAllowed.j0]
    · obtain ⟨k1, e1⟩ := valid_f t (by omega)
      have main : ∃ k, ∀ k', k ≤ k' → kinkeeplaw35_QuotaAllowed.j0 (k' + 2) t q a h o false = some true := by
        cases hv : A.validT t with
        | false =>
          refine ⟨k1, fun k' hk => ?_⟩
          rw [hv] at e1
          have m1 := more (f := fun k => kinkeepref35_Valid.f k t) (fun k => kinkeepref35_Valid.mono t k) (show k1 ≤ k' + 1 by omega) e1
          simp only [kinkeeplaw35_QuotaAllowed.j0, Bool.false_eq_true, if_false, quota_Allowed.f, Option.bind_some, m1]
          exact allowed_bad k' t q a h o (by simp [A.allowedOk, A.fitsT, hv])
        | true =>
          obtain ⟨k2, e2⟩ := held_f t hv
          obtain ⟨k3, e3⟩ := balance_f t hv
          refine ⟨k1 + k2 + k3 + 100, fun k' hk => ?_⟩
          rw [hv] at e1
          have m1 := more (f := fun k => kinkeepref35_Valid.f k t) (fun k => kinkeepref35_Valid.mono t k) (show k1 ≤ k' + 1 by omega) e1
          have m2 := more (f := fun k => kinkeepref35_Held.f k t) (fun k => kinkeepref35_Held.mono t k) (show k2 ≤ k' by omega) e2
          have m3 := more (f := fun k => kinkeepref35_Balance.f k t) (fun k => kinkeepref35_Balance.mono t k) (show k3 ≤ k' by omega) e3
          have m4 := quotas_f t q (by omega) (k' + 1) (by omega)
          cases hQ : (!(A.badAny q) && decide (q.length = t.length)) with
          | false =>
            rw [hQ] at m4
            simp only [kinkeeplaw35_QuotaAllowed.j0, Bool.false_eq_true, if_false, if_true, quota_Allowed.f, Option.bind_some, m1, m4]
            exact allowed_bad k' t q a h o (by rw [Bool.and_comm] at hQ; simp [A.allowedOk, A.fitsT, hQ])
          | true =>
            rw [hQ] at m4
            have hfit : A.fitsT t q = true := by rw [Bool.and_comm] at hQ; simp [A.fitsT, hv, hQ]
            have hql : q.length = t.length := by simp at hQ; exact hQ.2
            have bad : ¬ (0 ≤ a ∧ a ≤ 1099511627776 ∧ 0 ≤ h ∧ h < t.length ∧ 0 ≤ o ∧ o < t.length ∧ h ≠ o) → A.allowedOk t q a h o = false := fun hn => by
              rw [Bool.eq_false_iff]
              intro hh
              simp only [A.allowedOk, A.okN, A.ins, Bool.and_eq_true, decide_eq_true_eq, Bool.not_eq_true', beq_eq_false_iff_ne] at hh
              exact hn ⟨hh.2.1.1, hh.2.1.2, hh.2.2.1.1, hh.2.2.1.2, hh.2.2.2.1.1, hh.2.2.2.1.2, hh.2.2.2.2⟩
            simp only [kinkeeplaw35_QuotaAllowed.j0, Bool.false_eq_true, if_false, if_true, quota_Allowed.f, Option.bind_some, m1, m4]
            by_cases c1 : a < 0
            · rw [if_pos c1]; exact allowed_bad k' t q a h o (bad (by omega))
            rw [if_neg c1]
            by_cases c2 : a > 1099511627776
            · rw [if_pos c2]; exact allowed_bad k' t q a h o (bad (by omega))
            rw [if_neg c2]
            by_cases c3 : h < 0
            · rw [if_pos c3]; exact allowed_bad k' t q a h o (bad (by omega))
            rw [if_neg c3]
            by_cases c4 : h ≥ (t.length : Int)
            · rw [if_pos c4]; exact allowed_bad k' t q a h o (bad (by omega))
            rw [if_neg c4]
            by_cases c5 : o < 0
            · rw [if_pos c5]; exact allowed_bad k' t q a h o (bad (by omega))
            rw [if_neg c5]
            by_cases c6 : o ≥ (t.length : Int)
            · rw [if_pos c6]; exact allowed_bad k' t q a h o (bad (by omega))
            rw [if_neg c6]
            by_cases c7 : h = o
            · rw [show (h == o) = true from by simp [c7]]; exact allowed_bad k' t q a h o (bad (by omega))
            · have hok : A.allowedOk t q a h o = true := by
                simp only [A.allowedOk, A.okN, A.ins, Bool.and_eq_true, decide_eq_true_eq, Bool.not_eq_true', beq_eq_false_iff_ne]
                exact ⟨hfit, ⟨by omega, by omega⟩, ⟨by omega, by omega⟩, ⟨by omega, by omega⟩, c7⟩
              obtain ⟨hn, rfl⟩ := Int.eq_ofNat_of_zero_le (show 0 ≤ h by omega)
              have lh : (A.heldT t).length = t.length := by simp [A.heldT]
              have lb : (A.balT t).length = t.length := by simp [A.balT]
              have eo : A.allowedOut t q a hn o = (max 0 (min (wrap64 (rd q hn - A.wsum (rd_L1 t (hn : Int)) 0)) (wrap64 (a - rd (A.balT t) o))), 0) := by rw [A.allowedOut, if_pos hok]
              have hm : ∀ x y : Int, mx 0 (mn x y) = max 0 (min x y) := fun x y => by unfold mx mn; split <;> split <;> omega
              rw [show ((hn : Int) == o) = false from by simp [c7], eo]
              simp only [kinkeeplaw35_QuotaAllowed.j1, Bool.false_eq_true, if_false, Option.bind_some, m2, m3]
              rw [if_pos (by omega), if_pos (by omega), if_pos (by omega), if_pos (by omega), if_pos (by omega), A.rd_held t hn (by omega), hm, if_pos rfl]
              rfl
      obtain ⟨k, hk⟩ := main
      refine ⟨k + 2, ?_⟩
      simp only [kinkeeplaw35_QuotaAllowed.f, kinkeeplaw35_awake.f, Option.bind_some, if_true, if_neg hl, decide_eq_false hq]
      exact hk k (Nat.le_refl k)
end Go.Proofs.Ytdljbmgknhbceaa.Pure
