import Derived.Test.YtdljbmgknhbceaaQx0
import Derived.Test.YtdljbmgknhbceaaX1
namespace Go.Proofs.Ytdljbmgknhbceaa.Q
open Go.RowKit Go.Proofs.YtdljbmgknhbceaaW.PrintWords Go.Proofs.YtdljbmgknhbceaaW.PrintLast Go.Proofs.YtdljbmgknhbceaaW.PrintMore
set_option linter.unusedVariables false

/-! ### kinkeepref35_Cancel: function 28, by hand (X1) -/
def kinkeepref35_Cancel.f (k : Nat) (l0 : List (List Int)) : Option (List (List Int)) := if A.validT l0 = true then some (A.refC (A.phi l0 + 1) l0) else none
theorem kinkeepref35_Cancel.mono : ∀ a0 k, LeO (kinkeepref35_Cancel.f k a0) (kinkeepref35_Cancel.f (k + 1) a0) := by
  intro a0 k
  exact LeO.refl _
theorem kinkeepref35_Cancel.calls (k : Nat) (A0 : Option Addr) (c0 : Nat) (l0 : List (List Int)) (r : List (List Int)) (w : World) (hr0 : Kd.C (Kd.slice 3 (Kd.int .i64)) w A0 l0.length l0) (hc0 : l0.length ≤ c0) (h : kinkeepref35_Cancel.f k l0 = some r) :
    Calls Try.prog 28 #[.slice A0 l0.length c0] w fun e w' => ∃ v0_ : Value, e = .returned (v0_) ∧ Kd.S (Kd.slice 3 (Kd.int .i64)) 31 w' w.heap.size (fun _ => True) v0_ r ∧ Below w.heap.size w w' := by
  rw [kinkeepref35_Cancel.f] at h
  split at h
  · rename_i hv
    have e := Option.some.inj h
    subst e
    exact A.refCancel_any A0 c0 l0 w hr0 (A.valid_good hv) (A.valid_sq hv).1 hc0
  · cases h
end Go.Proofs.Ytdljbmgknhbceaa.Q
