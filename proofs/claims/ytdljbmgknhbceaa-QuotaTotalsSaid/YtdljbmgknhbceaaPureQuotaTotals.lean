import Derived.Test.YtdljbmgknhbceaaQx53
import Derived.Test.YtdljbmgknhbceaaP1
namespace Go.Proofs.Ytdljbmgknhbceaa.Pure
open Go.RowKit Go.Proofs.YtdljbmgknhbceaaW.PrintWords Go.Proofs.Ytdljbmgknhbceaa.Q Go.Proofs.Ytdljbmgknhbceaa.P
theorem quotaTotals (l0 : List (List Int)) (_h0 : ∀ row ∈ l0, ∀ x ∈ row, (Lit.int .i64 x).wf = true) : ∃ k, kinkeeplaw35_QuotaTotals.f k l0 = some true := by
  by_cases hl : (l0.length : Int) > 14
  · refine ⟨0, ?_⟩
    simp only [kinkeeplaw35_QuotaTotals.f, kinkeeplaw35_awake.f, Option.bind_some, if_true, if_pos hl]
  · obtain ⟨k1, e1⟩ := valid_f l0 (by omega)
    cases hv : A.validT l0 with
    | false =>
      refine ⟨k1, ?_⟩
      rw [hv] at e1
      simp only [kinkeeplaw35_QuotaTotals.f, kinkeeplaw35_awake.f, Option.bind_some, if_true, if_neg hl, e1, quota_Held.f, quota_Balance.f, quota_Valid.f, A.heldOut, A.balOut, hv]
      rfl
    | true =>
      obtain ⟨k2, e2⟩ := held_f l0 hv
      obtain ⟨k3, e3⟩ := balance_f l0 hv
      have h12 := (A.valid_sq hv).1
      rw [hv] at e1
      have m1 := more (f := fun k => kinkeepref35_Valid.f k l0) (fun k => kinkeepref35_Valid.mono l0 k) (show k1 ≤ k1 + k2 + k3 + 100 by omega) e1
      have m2 := more (f := fun k => kinkeepref35_Held.f k l0) (fun k => kinkeepref35_Held.mono l0 k) (show k2 ≤ k1 + k2 + k3 + 100 by omega) e2
      have m3 := more (f := fun k => kinkeepref35_Balance.f k l0) (fun k => kinkeepref35_Balance.mono l0 k) (show k3 ≤ k1 + k2 + k3 + 100 by omega) e3
      have lh : (A.heldT l0).length = l0.length := by simp [A.heldT]
      have lb : (A.balT l0).length = l0.length := by simp [A.balT]
      have s1 := sameInts (A.heldT l0) (A.heldT l0) (k1 + k2 + k3 + 100) (by omega) (by omega)
      have s2 := sameInts (A.balT l0) (A.balT l0) (k1 + k2 + k3 + 100) (by omega) (by omega)
      refine ⟨k1 + k2 + k3 + 100, ?_⟩
      generalize k1 + k2 + k3 + 100 = k at m1 m2 m3 s1 s2 ⊢
      simp only [decide_true] at s1 s2
      simp only [kinkeeplaw35_QuotaTotals.f, kinkeeplaw35_awake.f, Option.bind_some, if_true, if_neg hl, m1, m2, m3, s1, s2, quota_Held.f, quota_Balance.f, quota_Valid.f, A.heldOut, A.balOut, hv]
      rfl
end Go.Proofs.Ytdljbmgknhbceaa.Pure
