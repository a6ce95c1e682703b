import Derived.Test.YtdljbmgknhbceaaX2
namespace Go.Proofs.Ytdljbmgknhbceaa.Q
open Go.RowKit Go.Proofs.YtdljbmgknhbceaaW.PrintWords Go.Proofs.YtdljbmgknhbceaaW.PrintLast Go.Proofs.YtdljbmgknhbceaaW.PrintMore
set_option linter.unusedVariables false

/-! ### kinkeeplaw35_QuotaFits: function 5, by hand (X2): it returns true -/
def kinkeeplaw35_QuotaFits.f (k : Nat) (l0 : List (List Int)) (l1 : List Int) : Option Bool := some true
theorem kinkeeplaw35_QuotaFits.calls (k : Nat) (A0 : Option Addr) (c0 : Nat) (l0 : List (List Int)) (A1 : Option Addr) (c1 : Nat) (l1 : List Int) (r : Bool) (w : World) (hr0 : Kd.C (Kd.slice 3 (Kd.int .i64)) w A0 l0.length l0) (hc0 : l0.length ≤ c0) (hr1 : Kd.C (Kd.int .i64) w A1 l1.length l1) (hc1 : l1.length ≤ c1) (h : kinkeeplaw35_QuotaFits.f k l0 l1 = some r) :
    Calls Try.prog 5 #[.slice A0 l0.length c0, .slice A1 l1.length c1] w fun e w' => e = .returned (.bool r) ∧ Below w.heap.size w w' := by
  obtain rfl := Option.some.inj h
  exact A.Fits_any A0 c0 l0 A1 c1 l1 w hr0 hc0 hr1 hc1
end Go.Proofs.Ytdljbmgknhbceaa.Q
namespace Go.Proofs.Ytdljbmgknhbceaa.Pure
theorem quotaFits (t : List (List Int)) (q : List Int) (_h0 : ∀ row ∈ t, ∀ x ∈ row, (Lit.int .i64 x).wf = true) (_h1 : ∀ x ∈ q, (Lit.int .i64 x).wf = true) : ∃ k, Q.kinkeeplaw35_QuotaFits.f k t q = some true := ⟨0, rfl⟩
end Go.Proofs.Ytdljbmgknhbceaa.Pure
