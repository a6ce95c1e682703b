import Derived.Test.YtdljbmgknhbceaaQx0
import Derived.Test.YtdljbmgknhbceaaBa
import Derived.Test.YtdljbmgknhbceaaAj
import Derived.Test.YtdljbmgknhbceaaAf
import Derived.Test.YtdljbmgknhbceaaBc
namespace Go.Proofs.Ytdljbmgknhbceaa.Q
open Go.RowKit Go.Proofs.YtdljbmgknhbceaaW.PrintWords Go.Proofs.YtdljbmgknhbceaaW.PrintLast Go.Proofs.YtdljbmgknhbceaaW.PrintMore
set_option linter.unusedVariables false

/-! ### quota_Valid: function 18, by hand (A8) -/
def quota_Valid.f (k : Nat) (l0 : List (List Int)) : Option (Bool) := some (A.validT l0)
theorem quota_Valid.mono : ∀ a0 k, LeO (quota_Valid.f k a0) (quota_Valid.f (k + 1) a0) := by
  intro a0 k
  exact LeO.refl _
theorem quota_Valid.calls (k : Nat) (A0 : Option Addr) (c0 : Nat) (l0 : List (List Int)) (r : Bool) (w : World) (hr0 : Kd.C (Kd.slice 3 (Kd.int .i64)) w A0 l0.length l0) (hc0 : l0.length ≤ c0) (h : quota_Valid.f k l0 = some r) :
    Calls Try.prog 18 #[.slice A0 l0.length c0] w fun e w' => e = .returned (.bool r) ∧ Drawn0 w w' := by
  have e := Option.some.inj h
  subst e
  exact A.valid_any A0 c0 l0 w hr0

end Go.Proofs.Ytdljbmgknhbceaa.Q

namespace Go.Proofs.Ytdljbmgknhbceaa.Q
open Go.RowKit Go.Proofs.YtdljbmgknhbceaaW.PrintWords Go.Proofs.YtdljbmgknhbceaaW.PrintLast Go.Proofs.YtdljbmgknhbceaaW.PrintMore
set_option linter.unusedVariables false

/-! ### quota_held: function 41, by hand (Aa) -/
def quota_held.f (k : Nat) (l0 : List (List Int)) : Option (List Int) := if l0.length < 35184372088832 then some (A.heldT l0) else none
theorem quota_held.mono : ∀ a0 k, LeO (quota_held.f k a0) (quota_held.f (k + 1) a0) := by
  intro a0 k
  exact LeO.refl _
theorem quota_held.calls (k : Nat) (A0 : Option Addr) (c0 : Nat) (l0 : List (List Int)) (r : List Int) (w : World) (hr0 : Kd.C (Kd.slice 3 (Kd.int .i64)) w A0 l0.length l0) (hc0 : l0.length ≤ c0) (h : quota_held.f k l0 = some r) :
    Calls Try.prog 41 #[.slice A0 l0.length c0] w fun e w' => ∃ v0_ : Value, e = .returned (v0_) ∧ Kd.R (Kd.int .i64) 3 w' w.heap.size (fun _ => True) v0_ r ∧ Below w.heap.size w w' := by
  have hl : l0.length < 35184372088832 := by
    rcases Nat.lt_or_ge l0.length 35184372088832 with g | g
    · exact g
    · rw [quota_held.f, if_neg (by omega)] at h; cases h
  rw [quota_held.f, if_pos hl] at h
  have e := Option.some.inj h
  subst e
  exact A.held_any A0 c0 l0 w hr0 hl

end Go.Proofs.Ytdljbmgknhbceaa.Q

namespace Go.Proofs.Ytdljbmgknhbceaa.Q
open Go.RowKit Go.Proofs.YtdljbmgknhbceaaW.PrintWords Go.Proofs.YtdljbmgknhbceaaW.PrintLast Go.Proofs.YtdljbmgknhbceaaW.PrintMore
set_option linter.unusedVariables false

/-! ### quota_Balance: function 16, by hand (Aa) -/
def quota_Balance.f (k : Nat) (l0 : List (List Int)) : Option (List Int × Int) := some (A.balOut l0)
theorem quota_Balance.mono : ∀ a0 k, LeO (quota_Balance.f k a0) (quota_Balance.f (k + 1) a0) := by
  intro a0 k
  exact LeO.refl _
theorem quota_Balance.calls (k : Nat) (A0 : Option Addr) (c0 : Nat) (l0 : List (List Int)) (r1 : List Int) (r2 : Int) (w : World) (hr0 : Kd.C (Kd.slice 3 (Kd.int .i64)) w A0 l0.length l0) (hc0 : l0.length ≤ c0) (h : quota_Balance.f k l0 = some (r1, r2)) :
    Calls Try.prog 16 #[.slice A0 l0.length c0] w fun e w' => ∃ v0_ : Value, e = .returned (.tuple #[v0_, .int .i64 r2]) ∧ Kd.R (Kd.int .i64) 3 w' w.heap.size (fun _ => True) v0_ r1 ∧ Below w.heap.size w w' := by
  have e := Option.some.inj h
  obtain rfl : (A.balOut l0).1 = r1 := by rw [e]
  obtain rfl : (A.balOut l0).2 = r2 := by rw [e]
  exact A.Balance_any A0 c0 l0 w hr0

end Go.Proofs.Ytdljbmgknhbceaa.Q

namespace Go.Proofs.Ytdljbmgknhbceaa.Q
open Go.RowKit Go.Proofs.YtdljbmgknhbceaaW.PrintWords Go.Proofs.YtdljbmgknhbceaaW.PrintLast Go.Proofs.YtdljbmgknhbceaaW.PrintMore
set_option linter.unusedVariables false

/-! ### quota_fits: function 46, by hand (A9) -/
def quota_fits.f (k : Nat) (l0 : List (List Int)) (l1 : List Int) : Option (Bool) := some (A.fitsT l0 l1)
theorem quota_fits.mono : ∀ a0 a1 k, LeO (quota_fits.f k a0 a1) (quota_fits.f (k + 1) a0 a1) := by
  intro a0 a1 k
  exact LeO.refl _
theorem quota_fits.calls (k : Nat) (A0 : Option Addr) (c0 : Nat) (l0 : List (List Int)) (A1 : Option Addr) (c1 : Nat) (l1 : List Int) (r : Bool) (w : World) (hr0 : Kd.C (Kd.slice 3 (Kd.int .i64)) w A0 l0.length l0) (hc0 : l0.length ≤ c0) (hr1 : Kd.C (Kd.int .i64) w A1 l1.length l1) (hc1 : l1.length ≤ c1) (h : quota_fits.f k l0 l1 = some r) :
    Calls Try.prog 46 #[.slice A0 l0.length c0, .slice A1 l1.length c1] w fun e w' => e = .returned (.bool r) ∧ Drawn0 w w' := by
  have e := Option.some.inj h
  subst e
  exact A.fits_any A0 c0 l0 A1 c1 l1 w hr0 hr1

end Go.Proofs.Ytdljbmgknhbceaa.Q

namespace Go.Proofs.Ytdljbmgknhbceaa.Q
open Go.RowKit Go.Proofs.YtdljbmgknhbceaaW.PrintWords Go.Proofs.YtdljbmgknhbceaaW.PrintLast Go.Proofs.YtdljbmgknhbceaaW.PrintMore
set_option linter.unusedVariables false

/-! ### quota_Settle: function 20, by hand (Aj) -/
def quota_Settle.f (k : Nat) (l0 : List (List Int)) (l1 : List Int) : Option ((List (S29)) × Int) := some (A.settleOut l0 l1)
theorem quota_Settle.mono : ∀ a0 a1 k, LeO (quota_Settle.f k a0 a1) (quota_Settle.f (k + 1) a0 a1) := by
  intro a0 a1 k
  exact LeO.refl _
theorem quota_Settle.calls (k : Nat) (A0 : Option Addr) (c0 : Nat) (l0 : List (List Int)) (A1 : Option Addr) (c1 : Nat) (l1 : List Int) (r1 : List (S29)) (r2 : Int) (w : World) (hr0 : Kd.C (Kd.slice 3 (Kd.int .i64)) w A0 l0.length l0) (hc0 : l0.length ≤ c0) (hr1 : Kd.C (Kd.int .i64) w A1 l1.length l1) (hc1 : l1.length ≤ c1) (h : quota_Settle.f k l0 l1 = some (r1, r2)) :
    Calls Try.prog 20 #[.slice A0 l0.length c0, .slice A1 l1.length c1] w fun e w' => ∃ v0_ : Value, e = .returned (.tuple #[v0_, .int .i64 r2]) ∧ Kd.R k29 29 w' w.heap.size (fun _ => True) v0_ r1 ∧ Below w.heap.size w w' := by
  have e := Option.some.inj h
  obtain rfl : (A.settleOut l0 l1).1 = r1 := by rw [e]
  obtain rfl : (A.settleOut l0 l1).2 = r2 := by rw [e]
  exact A.Settle_any A0 c0 l0 A1 c1 l1 w hr0 hr1

end Go.Proofs.Ytdljbmgknhbceaa.Q

namespace Go.Proofs.Ytdljbmgknhbceaa.Q
open Go.RowKit Go.Proofs.YtdljbmgknhbceaaW.PrintWords Go.Proofs.YtdljbmgknhbceaaW.PrintLast Go.Proofs.YtdljbmgknhbceaaW.PrintMore
set_option linter.unusedVariables false

/-! ### quota_Allowed: function 22, by hand (Ab) -/
def quota_Allowed.f (k : Nat) (l0 : List (List Int)) (l1 : List Int) (a2 : Int) (a3 : Int) (a4 : Int) : Option (Int × Int) := some (A.allowedOut l0 l1 a2 a3 a4)
theorem quota_Allowed.mono : ∀ a0 a1 a2 a3 a4 k, LeO (quota_Allowed.f k a0 a1 a2 a3 a4) (quota_Allowed.f (k + 1) a0 a1 a2 a3 a4) := by
  intro a0 a1 a2 a3 a4 k
  exact LeO.refl _
theorem quota_Allowed.calls (k : Nat) (A0 : Option Addr) (c0 : Nat) (l0 : List (List Int)) (A1 : Option Addr) (c1 : Nat) (l1 : List Int) (a2 : Int) (a3 : Int) (a4 : Int) (r1 : Int) (r2 : Int) (w : World) (hr0 : Kd.C (Kd.slice 3 (Kd.int .i64)) w A0 l0.length l0) (hc0 : l0.length ≤ c0) (hr1 : Kd.C (Kd.int .i64) w A1 l1.length l1) (hc1 : l1.length ≤ c1) (h : quota_Allowed.f k l0 l1 a2 a3 a4 = some (r1, r2)) :
    Calls Try.prog 22 #[.slice A0 l0.length c0, .slice A1 l1.length c1, .int .i64 a2, .int .i64 a3, .int .i64 a4] w fun e w' => e = .returned (.tuple #[.int .i64 r1, .int .i64 r2]) ∧ Below w.heap.size w w' := by
  have e := Option.some.inj h
  obtain rfl : (A.allowedOut l0 l1 a2 a3 a4).1 = r1 := by rw [e]
  obtain rfl : (A.allowedOut l0 l1 a2 a3 a4).2 = r2 := by rw [e]
  exact A.Allowed_any A0 c0 l0 A1 c1 l1 a2 a3 a4 w hr0 hr1

end Go.Proofs.Ytdljbmgknhbceaa.Q

namespace Go.Proofs.Ytdljbmgknhbceaa.Q
open Go.RowKit Go.Proofs.YtdljbmgknhbceaaW.PrintWords Go.Proofs.YtdljbmgknhbceaaW.PrintLast Go.Proofs.YtdljbmgknhbceaaW.PrintMore
set_option linter.unusedVariables false

/-! ### quota_Cancel: function 27, by hand (Af) -/
def quota_Cancel.f (k : Nat) (l0 : List (List Int)) : Option ((List (List Int)) × Int) := some (A.cancelOut l0)
theorem quota_Cancel.mono : ∀ a0 k, LeO (quota_Cancel.f k a0) (quota_Cancel.f (k + 1) a0) := by
  intro a0 k
  exact LeO.refl _
theorem quota_Cancel.calls (k : Nat) (A0 : Option Addr) (c0 : Nat) (l0 : List (List Int)) (r1 : List (List Int)) (r2 : Int) (w : World) (hr0 : Kd.C (Kd.slice 3 (Kd.int .i64)) w A0 l0.length l0) (hc0 : l0.length ≤ c0) (h : quota_Cancel.f k l0 = some (r1, r2)) :
    Calls Try.prog 27 #[.slice A0 l0.length c0] w fun e w' => ∃ v0_ : Value, e = .returned (.tuple #[v0_, .int .i64 r2]) ∧ Kd.S (Kd.slice 3 (Kd.int .i64)) 31 w' w.heap.size (fun _ => True) v0_ r1 ∧ Below w.heap.size w w' := by
  have e := Option.some.inj h
  obtain rfl : (A.cancelOut l0).1 = r1 := by rw [e]
  obtain rfl : (A.cancelOut l0).2 = r2 := by rw [e]
  exact A.Cancel_any A0 c0 l0 w hr0

end Go.Proofs.Ytdljbmgknhbceaa.Q

namespace Go.Proofs.Ytdljbmgknhbceaa.Q
open Go.RowKit Go.Proofs.YtdljbmgknhbceaaW.PrintWords Go.Proofs.YtdljbmgknhbceaaW.PrintLast Go.Proofs.YtdljbmgknhbceaaW.PrintMore
set_option linter.unusedVariables false

/-! ### quota_Apply: function 15, by hand (Ae) -/
def quota_Apply.f (k : Nat) (l0 : List (List Int)) (l1 : List (S29)) : Option ((List (List Int)) × Int) := some (A.applyOut l0 l1)
theorem quota_Apply.mono : ∀ a0 a1 k, LeO (quota_Apply.f k a0 a1) (quota_Apply.f (k + 1) a0 a1) := by
  intro a0 a1 k
  exact LeO.refl _
theorem quota_Apply.calls (k : Nat) (A0 : Option Addr) (c0 : Nat) (l0 : List (List Int)) (A1 : Option Addr) (c1 : Nat) (l1 : List (S29)) (r1 : List (List Int)) (r2 : Int) (w : World) (hr0 : Kd.C (Kd.slice 3 (Kd.int .i64)) w A0 l0.length l0) (hc0 : l0.length ≤ c0) (hr1 : Kd.C k29 w A1 l1.length l1) (hc1 : l1.length ≤ c1) (h : quota_Apply.f k l0 l1 = some (r1, r2)) :
    Calls Try.prog 15 #[.slice A0 l0.length c0, .slice A1 l1.length c1] w fun e w' => ∃ v0_ : Value, e = .returned (.tuple #[v0_, .int .i64 r2]) ∧ Kd.S (Kd.slice 3 (Kd.int .i64)) 31 w' w.heap.size (fun _ => True) v0_ r1 ∧ Below w.heap.size w w' := by
  have e := Option.some.inj h
  obtain rfl : (A.applyOut l0 l1).1 = r1 := by rw [e]
  obtain rfl : (A.applyOut l0 l1).2 = r2 := by rw [e]
  exact A.Apply_any A0 c0 l0 A1 c1 l1 w hr0 hr1

end Go.Proofs.Ytdljbmgknhbceaa.Q

namespace Go.Proofs.Ytdljbmgknhbceaa.Q
open Go.RowKit Go.Proofs.YtdljbmgknhbceaaW.PrintWords Go.Proofs.YtdljbmgknhbceaaW.PrintLast Go.Proofs.YtdljbmgknhbceaaW.PrintMore
set_option linter.unusedVariables false

/-! ### quota_Held: function 21, by hand (Aa) -/
def quota_Held.f (k : Nat) (l0 : List (List Int)) : Option (List Int × Int) := some (A.heldOut l0)
theorem quota_Held.mono : ∀ a0 k, LeO (quota_Held.f k a0) (quota_Held.f (k + 1) a0) := by
  intro a0 k
  exact LeO.refl _
theorem quota_Held.calls (k : Nat) (A0 : Option Addr) (c0 : Nat) (l0 : List (List Int)) (r1 : List Int) (r2 : Int) (w : World) (hr0 : Kd.C (Kd.slice 3 (Kd.int .i64)) w A0 l0.length l0) (hc0 : l0.length ≤ c0) (h : quota_Held.f k l0 = some (r1, r2)) :
    Calls Try.prog 21 #[.slice A0 l0.length c0] w fun e w' => ∃ v0_ : Value, e = .returned (.tuple #[v0_, .int .i64 r2]) ∧ Kd.R (Kd.int .i64) 3 w' w.heap.size (fun _ => True) v0_ r1 ∧ Below w.heap.size w w' := by
  have e := Option.some.inj h
  obtain rfl : (A.heldOut l0).1 = r1 := by rw [e]
  obtain rfl : (A.heldOut l0).2 = r2 := by rw [e]
  exact A.Held_any A0 c0 l0 w hr0

end Go.Proofs.Ytdljbmgknhbceaa.Q
