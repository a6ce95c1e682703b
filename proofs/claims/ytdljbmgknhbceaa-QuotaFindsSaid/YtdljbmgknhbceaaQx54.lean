-- Printed by this seat's own driver (tools/mkprint.sh) out of the kit's print.py over stub bodies; parts are then proved by hand.
import Derived.Test.YtdljbmgknhbceaaQx0
import Derived.Test.YtdljbmgknhbceaaQv
import Derived.Test.YtdljbmgknhbceaaQx25
import Derived.Test.YtdljbmgknhbceaaQr
namespace Go.Proofs.Ytdljbmgknhbceaa.Q
open Go.RowKit Go.Proofs.YtdljbmgknhbceaaW.PrintWords Go.Proofs.YtdljbmgknhbceaaW.PrintLast Go.Proofs.YtdljbmgknhbceaaW.PrintMore
attribute [local go_sem] max2_int min2_int max_two min_two max_three min_three max_four min_four   -- for this text's walks alone
set_option linter.unusedVariables false
set_option linter.unusedSimpArgs false

/-! ### kinkeeplaw35_QuotaFinds: function 11 -/
mutual
def kinkeeplaw35_QuotaFinds.j0 : Nat → List (List Int) → List Int → List Int → Bool → Option (Bool)
 | 0, _, _, _, _ => none
 | k + 1, x0, x1, x2, x40 => if x40 = true then (some true) else ((quota_Settle.f k x0 x1).bind fun bt625 => ((quota_Held.f k x0).bind fun bt629 => (if bt625.2 = 1 then (some true) else (if bt629.2 = 0 then (kinkeeplaw35_QuotaFinds.j1 k x0 x1 x2 bt625.2 bt629.1 ((bt629.1.length : Int) != (x0.length : Int))) else (kinkeeplaw35_QuotaFinds.j1 k x0 x1 x2 bt625.2 bt629.1 true)))))
def kinkeeplaw35_QuotaFinds.j1 : Nat → List (List Int) → List Int → List Int → Int → List Int → Bool → Option (Bool)
 | 0, _, _, _, _, _, _ => none
 | k + 1, x0, x1, x2, x8, x9, x62 => if x62 = true then (some false) else ((kinkeepref35_Clone.f k x0).bind fun t633 => (kinkeeplaw35_QuotaFinds.l0 k x0 x1 x2 x8 x9 t633 0))
def kinkeeplaw35_QuotaFinds.l0 : Nat → List (List Int) → List Int → List Int → Int → List Int → List (List Int) → Int → Option (Bool)
 | 0, _, _, _, _, _, _, _ => none
 | k + 1, x0, x1, x2, x8, x9, x11, x12 => if x12 < (x2.length : Int) then (if 0 ≤ x12 then (if (rd x2 x12) < 0 then (kinkeeplaw35_QuotaFinds.j3 k x0 x1 x2 x8 x9 x11 x12 (rd x2 x12) true) else (kinkeeplaw35_QuotaFinds.j3 k x0 x1 x2 x8 x9 x11 x12 (rd x2 x12) (decide ((rd x2 x12) ≥ (x0.length : Int))))) else (none)) else (kinkeeplaw35_QuotaFinds.l3 k x0 x1 x8 x9 0)
def kinkeeplaw35_QuotaFinds.j3 : Nat → List (List Int) → List Int → List Int → Int → List Int → List (List Int) → Int → Int → Bool → Option (Bool)
 | 0, _, _, _, _, _, _, _, _, _ => none
 | k + 1, x0, x1, x2, x8, x9, x11, x12, x13, x82 => if x82 = true then (some true) else (kinkeeplaw35_QuotaFinds.l1 k x0 x1 x2 x8 x9 x11 x12 x13 0)
def kinkeeplaw35_QuotaFinds.l1 : Nat → List (List Int) → List Int → List Int → Int → List Int → List (List Int) → Int → Int → Int → Option (Bool)
 | 0, _, _, _, _, _, _, _, _, _ => none
 | k + 1, x0, x1, x2, x8, x9, x11, x12, x13, x14 => if x14 < (x0.length : Int) then (kinkeeplaw35_QuotaFinds.l2 k x0 x1 x2 x8 x9 x11 x12 x13 x14 (wrap64 ((x2.length : Int) - 1))) else (kinkeeplaw35_QuotaFinds.l0 k x0 x1 x2 x8 x9 x11 (wrap64 (x12 + 1)))
def kinkeeplaw35_QuotaFinds.l2 : Nat → List (List Int) → List Int → List Int → Int → List Int → List (List Int) → Int → Int → Int → Int → Option (Bool)
 | 0, _, _, _, _, _, _, _, _, _, _ => none
 | k + 1, x0, x1, x2, x8, x9, x11, x12, x13, x14, x15 => if x15 ≥ 0 then (if 0 ≤ x15 then (if x15 < (x2.length : Int) then (if (rd x2 x15) < 0 then (kinkeeplaw35_QuotaFinds.j6 k x0 x1 x2 x8 x9 x11 x12 x13 x14 x15 (rd x2 x15) true) else (if (rd x2 x15) ≥ (x0.length : Int) then (kinkeeplaw35_QuotaFinds.j6 k x0 x1 x2 x8 x9 x11 x12 x13 x14 x15 (rd x2 x15) true) else (if (rd x2 x15) = x13 then (kinkeeplaw35_QuotaFinds.j6 k x0 x1 x2 x8 x9 x11 x12 x13 x14 x15 (rd x2 x15) true) else (if (rd x2 x15) = x14 then (kinkeeplaw35_QuotaFinds.j6 k x0 x1 x2 x8 x9 x11 x12 x13 x14 x15 (rd x2 x15) true) else (kinkeeplaw35_QuotaFinds.j6 k x0 x1 x2 x8 x9 x11 x12 x13 x14 x15 (rd x2 x15) (x14 == x13)))))) else (none)) else (none)) else (kinkeeplaw35_QuotaFinds.l1 k x0 x1 x2 x8 x9 x11 x12 x13 (wrap64 (x14 + 1)))
def kinkeeplaw35_QuotaFinds.j6 : Nat → List (List Int) → List Int → List Int → Int → List Int → List (List Int) → Int → Int → Int → Int → Int → Bool → Option (Bool)
 | 0, _, _, _, _, _, _, _, _, _, _, _, _ => none
 | k + 1, x0, x1, x2, x8, x9, x11, x12, x13, x14, x15, x16, x122 => if x122 = true then (kinkeeplaw35_QuotaFinds.l2 k x0 x1 x2 x8 x9 x11 x12 x13 x14 (wrap64 (x15 - 1))) else (if 0 ≤ x13 then (if x13 < (x9.length : Int) then (if x13 < (x1.length : Int) then (if x13 < (x11.length : Int) then (if 0 ≤ x14 then (if x14 < ((rd_L1 x11 x13).length : Int) then (if 0 ≤ x16 then (if x16 < (x1.length : Int) then (if x16 < (x9.length : Int) then (if (mn (mn (wrap64 ((rd x9 x13) - (rd x1 x13))) (rd (rd_L1 x11 x13) x14)) (wrap64 ((rd x1 x16) - (rd x9 x16)))) > 0 then ((some (x9.set (x13 : Int).toNat (wrap64 ((rd x9 x13) - (mn (mn (wrap64 ((rd x9 x13) - (rd x1 x13))) (rd (rd_L1 x11 x13) x14)) (wrap64 ((rd x1 x16) - (rd x9 x16)))))) : List Int)).bind fun y651 => (kinkeeplaw35_QuotaFinds.l2 k x0 x1 x2 x8 (y651.set (x16 : Int).toNat (wrap64 ((rd y651 x16) + (mn (mn (wrap64 ((rd x9 x13) - (rd x1 x13))) (rd (rd_L1 x11 x13) x14)) (wrap64 ((rd x1 x16) - (rd x9 x16))))))) (x11.set (x13 : Int).toNat ((rd_L1 x11 x13).set (x14 : Int).toNat (wrap64 ((rd (rd_L1 x11 x13) x14) - (mn (mn (wrap64 ((rd x9 x13) - (rd x1 x13))) (rd (rd_L1 x11 x13) x14)) (wrap64 ((rd x1 x16) - (rd x9 x16)))))))) x12 x13 x14 (wrap64 (x15 - 1)))) else (kinkeeplaw35_QuotaFinds.l2 k x0 x1 x2 x8 x9 x11 x12 x13 x14 (wrap64 (x15 - 1)))) else (none)) else (none)) else (none)) else (none)) else (none)) else (none)) else (none)) else (none)) else (none))
def kinkeeplaw35_QuotaFinds.l3 : Nat → List (List Int) → List Int → Int → List Int → Int → Option (Bool)
 | 0, _, _, _, _, _ => none
 | k + 1, x0, x1, x8, x9, x18 => if x18 < (x0.length : Int) then (if 0 ≤ x18 then (if x18 < (x9.length : Int) then (if x18 < (x1.length : Int) then (if (rd x9 x18) > (rd x1 x18) then (some true) else (kinkeeplaw35_QuotaFinds.l3 k x0 x1 x8 x9 (wrap64 (x18 + 1)))) else (none)) else (none)) else (none)) else (some (x8 == 0))
end
def kinkeeplaw35_QuotaFinds.f (k : Nat) (l0 : List (List Int)) (l1 : List Int) (l2 : List Int) : Option (Bool) := (kinkeeplaw35_awake.f k).bind fun t622 => (if t622 = true then ((kinkeeplaw35_low.f k l0 12 1000).bind fun t623 => (if t623 = true then ((quota_Valid.f k l0).bind fun t624 => (if t624 = true then (if (l1.length : Int) = (l0.length : Int) then (kinkeeplaw35_QuotaFinds.j0 k l0 l1 l2 (decide ((l2.length : Int) > 12))) else (kinkeeplaw35_QuotaFinds.j0 k l0 l1 l2 true)) else (kinkeeplaw35_QuotaFinds.j0 k l0 l1 l2 true))) else (kinkeeplaw35_QuotaFinds.j0 k l0 l1 l2 true))) else (some false))
theorem kinkeeplaw35_QuotaFinds.mono_l : ∀ k, (∀ y0 y1 y2 y3, LeO (kinkeeplaw35_QuotaFinds.j0 k y0 y1 y2 y3) (kinkeeplaw35_QuotaFinds.j0 (k + 1) y0 y1 y2 y3)) ∧ (∀ y0 y1 y2 y3 y4 y5, LeO (kinkeeplaw35_QuotaFinds.j1 k y0 y1 y2 y3 y4 y5) (kinkeeplaw35_QuotaFinds.j1 (k + 1) y0 y1 y2 y3 y4 y5)) ∧ (∀ y0 y1 y2 y3 y4 y5 y6, LeO (kinkeeplaw35_QuotaFinds.l0 k y0 y1 y2 y3 y4 y5 y6) (kinkeeplaw35_QuotaFinds.l0 (k + 1) y0 y1 y2 y3 y4 y5 y6)) ∧ (∀ y0 y1 y2 y3 y4 y5 y6 y7 y8, LeO (kinkeeplaw35_QuotaFinds.j3 k y0 y1 y2 y3 y4 y5 y6 y7 y8) (kinkeeplaw35_QuotaFinds.j3 (k + 1) y0 y1 y2 y3 y4 y5 y6 y7 y8)) ∧ (∀ y0 y1 y2 y3 y4 y5 y6 y7 y8, LeO (kinkeeplaw35_QuotaFinds.l1 k y0 y1 y2 y3 y4 y5 y6 y7 y8) (kinkeeplaw35_QuotaFinds.l1 (k + 1) y0 y1 y2 y3 y4 y5 y6 y7 y8)) ∧ (∀ y0 y1 y2 y3 y4 y5 y6 y7 y8 y9, LeO (kinkeeplaw35_QuotaFinds.l2 k y0 y1 y2 y3 y4 y5 y6 y7 y8 y9) (kinkeeplaw35_QuotaFinds.l2 (k + 1) y0 y1 y2 y3 y4 y5 y6 y7 y8 y9)) ∧ (∀ y0 y1 y2 y3 y4 y5 y6 y7 y8 y9 y10 y11, LeO (kinkeeplaw35_QuotaFinds.j6 k y0 y1 y2 y3 y4 y5 y6 y7 y8 y9 y10 y11) (kinkeeplaw35_QuotaFinds.j6 (k + 1) y0 y1 y2 y3 y4 y5 y6 y7 y8 y9 y10 y11)) ∧ (∀ y0 y1 y2 y3 y4, LeO (kinkeeplaw35_QuotaFinds.l3 k y0 y1 y2 y3 y4) (kinkeeplaw35_QuotaFinds.l3 (k + 1) y0 y1 y2 y3 y4))
 | 0 => ⟨fun _ _ _ _ r h => by simp [kinkeeplaw35_QuotaFinds.j0] at h, fun _ _ _ _ _ _ r h => by simp [kinkeeplaw35_QuotaFinds.j1] at h, fun _ _ _ _ _ _ _ r h => by simp [kinkeeplaw35_QuotaFinds.l0] at h, fun _ _ _ _ _ _ _ _ _ r h => by simp [kinkeeplaw35_QuotaFinds.j3] at h, fun _ _ _ _ _ _ _ _ _ r h => by simp [kinkeeplaw35_QuotaFinds.l1] at h, fun _ _ _ _ _ _ _ _ _ _ r h => by simp [kinkeeplaw35_QuotaFinds.l2] at h, fun _ _ _ _ _ _ _ _ _ _ _ _ r h => by simp [kinkeeplaw35_QuotaFinds.j6] at h, fun _ _ _ _ _ r h => by simp [kinkeeplaw35_QuotaFinds.l3] at h⟩
 | k + 1 => by
  obtain ⟨ih0, ih1, ih2, ih3, ih4, ih5, ih6, ih7⟩ := kinkeeplaw35_QuotaFinds.mono_l k
  refine ⟨?_, ?_, ?_, ?_, ?_, ?_, ?_, ?_⟩
  ·
   intro y0 y1 y2 y3
   unfold kinkeeplaw35_QuotaFinds.j0
   repeat' first
   | (with_reducible exact ih0 _ _ _ _)
   | (with_reducible exact ih1 _ _ _ _ _ _)
   | (with_reducible exact ih2 _ _ _ _ _ _ _)
   | (with_reducible exact ih3 _ _ _ _ _ _ _ _ _)
   | (with_reducible exact ih4 _ _ _ _ _ _ _ _ _)
   | (with_reducible exact ih5 _ _ _ _ _ _ _ _ _ _)
   | (with_reducible exact ih6 _ _ _ _ _ _ _ _ _ _ _ _)
   | (with_reducible exact ih7 _ _ _ _ _)
   | (with_reducible exact kinkeeplaw35_awake.mono _)
   | (with_reducible exact kinkeeplaw35_low.mono _ _ _ _)
   | (with_reducible exact kinkeepref35_Clone.mono _ _)
   | (with_reducible exact quota_Held.mono _ _)
   | (with_reducible exact quota_Settle.mono _ _ _)
   | (with_reducible exact quota_Valid.mono _ _)
   | (with_reducible exact LeO.refl _)
   | (with_reducible exact LeO.none _)
   | (with_reducible refine LeO.ite ?_ ?_)
   | (with_reducible refine LeO.bind ?_ (fun _ => ?_))
   | exact ih0 _ _ _ _
   | exact ih1 _ _ _ _ _ _
   | exact ih2 _ _ _ _ _ _ _
   | exact ih3 _ _ _ _ _ _ _ _ _
   | exact ih4 _ _ _ _ _ _ _ _ _
   | exact ih5 _ _ _ _ _ _ _ _ _ _
   | exact ih6 _ _ _ _ _ _ _ _ _ _ _ _
   | exact ih7 _ _ _ _ _
   | exact kinkeeplaw35_awake.mono _
   | exact kinkeeplaw35_low.mono _ _ _ _
   | exact kinkeepref35_Clone.mono _ _
   | exact quota_Held.mono _ _
   | exact quota_Settle.mono _ _ _
   | exact quota_Valid.mono _ _
   | exact LeO.none _
   | refine LeO.ite ?_ ?_
   | refine LeO.bind ?_ (fun _ => ?_)
  ·
   intro y0 y1 y2 y3 y4 y5
   unfold kinkeeplaw35_QuotaFinds.j1
   repeat' first
   | (with_reducible exact ih0 _ _ _ _)
   | (with_reducible exact ih1 _ _ _ _ _ _)
   | (with_reducible exact ih2 _ _ _ _ _ _ _)
   | (with_reducible exact ih3 _ _ _ _ _ _ _ _ _)
   | (with_reducible exact ih4 _ _ _ _ _ _ _ _ _)
   | (with_reducible exact ih5 _ _ _ _ _ _ _ _ _ _)
   | (with_reducible exact ih6 _ _ _ _ _ _ _ _ _ _ _ _)
   | (with_reducible exact ih7 _ _ _ _ _)
   | (with_reducible exact kinkeeplaw35_awake.mono _)
   | (with_reducible exact kinkeeplaw35_low.mono _ _ _ _)
   | (with_reducible exact kinkeepref35_Clone.mono _ _)
   | (with_reducible exact quota_Held.mono _ _)
   | (with_reducible exact quota_Settle.mono _ _ _)
   | (with_reducible exact quota_Valid.mono _ _)
   | (with_reducible exact LeO.refl _)
   | (with_reducible exact LeO.none _)
   | (with_reducible refine LeO.ite ?_ ?_)
   | (with_reducible refine LeO.bind ?_ (fun _ => ?_))
   | exact ih0 _ _ _ _
   | exact ih1 _ _ _ _ _ _
   | exact ih2 _ _ _ _ _ _ _
   | exact ih3 _ _ _ _ _ _ _ _ _
   | exact ih4 _ _ _ _ _ _ _ _ _
   | exact ih5 _ _ _ _ _ _ _ _ _ _
   | exact ih6 _ _ _ _ _ _ _ _ _ _ _ _
   | exact ih7 _ _ _ _ _
   | exact kinkeeplaw35_awake.mono _
   | exact kinkeeplaw35_low.mono _ _ _ _
   | exact kinkeepref35_Clone.mono _ _
   | exact quota_Held.mono _ _
   | exact quota_Settle.mono _ _ _
   | exact quota_Valid.mono _ _
   | exact LeO.none _
   | refine LeO.ite ?_ ?_
   | refine LeO.bind ?_ (fun _ => ?_)
  ·
   intro y0 y1 y2 y3 y4 y5 y6
   unfold kinkeeplaw35_QuotaFinds.l0
   repeat' first
   | (with_reducible exact ih0 _ _ _ _)
   | (with_reducible exact ih1 _ _ _ _ _ _)
   | (with_reducible exact ih2 _ _ _ _ _ _ _)
   | (with_reducible exact ih3 _ _ _ _ _ _ _ _ _)
   | (with_reducible exact ih4 _ _ _ _ _ _ _ _ _)
   | (with_reducible exact ih5 _ _ _ _ _ _ _ _ _ _)
   | (with_reducible exact ih6 _ _ _ _ _ _ _ _ _ _ _ _)
   | (with_reducible exact ih7 _ _ _ _ _)
   | (with_reducible exact kinkeeplaw35_awake.mono _)
   | (with_reducible exact kinkeeplaw35_low.mono _ _ _ _)
   | (with_reducible exact kinkeepref35_Clone.mono _ _)
   | (with_reducible exact quota_Held.mono _ _)
   | (with_reducible exact quota_Settle.mono _ _ _)
   | (with_reducible exact quota_Valid.mono _ _)
   | (with_reducible exact LeO.refl _)
   | (with_reducible exact LeO.none _)
   | (with_reducible refine LeO.ite ?_ ?_)
   | (with_reducible refine LeO.bind ?_ (fun _ => ?_))
   | exact ih0 _ _ _ _
   | exact ih1 _ _ _ _ _ _
   | exact ih2 _ _ _ _ _ _ _
   | exact ih3 _ _ _ _ _ _ _ _ _
   | exact ih4 _ _ _ _ _ _ _ _ _
   | exact ih5 _ _ _ _ _ _ _ _ _ _
   | exact ih6 _ _ _ _ _ _ _ _ _ _ _ _
   | exact ih7 _ _ _ _ _
   | exact kinkeeplaw35_awake.mono _
   | exact kinkeeplaw35_low.mono _ _ _ _
   | exact kinkeepref35_Clone.mono _ _
   | exact quota_Held.mono _ _
   | exact quota_Settle.mono _ _ _
   | exact quota_Valid.mono _ _
   | exact LeO.none _
   | refine LeO.ite ?_ ?_
   | refine LeO.bind ?_ (fun _ => ?_)
  ·
   intro y0 y1 y2 y3 y4 y5 y6 y7 y8
   unfold kinkeeplaw35_QuotaFinds.j3
   repeat' first
   | (with_reducible exact ih0 _ _ _ _)
   | (with_reducible exact ih1 _ _ _ _ _ _)
   | (with_reducible exact ih2 _ _ _ _ _ _ _)
   | (with_reducible exact ih3 _ _ _ _ _ _ _ _ _)
   | (with_reducible exact ih4 _ _ _ _ _ _ _ _ _)
   | (with_reducible exact ih5 _ _ _ _ _ _ _ _ _ _)
   | (with_reducible exact ih6 _ _ _ _ _ _ _ _ _ _ _ _)
   | (with_reducible exact ih7 _ _ _ _ _)
   | (with_reducible exact kinkeeplaw35_awake.mono _)
   | (with_reducible exact kinkeeplaw35_low.mono _ _ _ _)
   | (with_reducible exact kinkeepref35_Clone.mono _ _)
   | (with_reducible exact quota_Held.mono _ _)
   | (with_reducible exact quota_Settle.mono _ _ _)
   | (with_reducible exact quota_Valid.mono _ _)
   | (with_reducible exact LeO.refl _)
   | (with_reducible exact LeO.none _)
   | (with_reducible refine LeO.ite ?_ ?_)
   | (with_reducible refine LeO.bind ?_ (fun _ => ?_))
   | exact ih0 _ _ _ _
   | exact ih1 _ _ _ _ _ _
   | exact ih2 _ _ _ _ _ _ _
   | exact ih3 _ _ _ _ _ _ _ _ _
   | exact ih4 _ _ _ _ _ _ _ _ _
   | exact ih5 _ _ _ _ _ _ _ _ _ _
   | exact ih6 _ _ _ _ _ _ _ _ _ _ _ _
   | exact ih7 _ _ _ _ _
   | exact kinkeeplaw35_awake.mono _
   | exact kinkeeplaw35_low.mono _ _ _ _
   | exact kinkeepref35_Clone.mono _ _
   | exact quota_Held.mono _ _
   | exact quota_Settle.mono _ _ _
   | exact quota_Valid.mono _ _
   | exact LeO.none _
   | refine LeO.ite ?_ ?_
   | refine LeO.bind ?_ (fun _ => ?_)
  ·
   intro y0 y1 y2 y3 y4 y5 y6 y7 y8
   unfold kinkeeplaw35_QuotaFinds.l1
   repeat' first
   | (with_reducible exact ih0 _ _ _ _)
   | (with_reducible exact ih1 _ _ _ _ _ _)
   | (with_reducible exact ih2 _ _ _ _ _ _ _)
   | (with_reducible exact ih3 _ _ _ _ _ _ _ _ _)
   | (with_reducible exact ih4 _ _ _ _ _ _ _ _ _)
   | (with_reducible exact ih5 _ _ _ _ _ _ _ _ _ _)
   | (with_reducible exact ih6 _ _ _ _ _ _ _ _ _ _ _ _)
   | (with_reducible exact ih7 _ _ _ _ _)
   | (with_reducible exact kinkeeplaw35_awake.mono _)
   | (with_reducible exact kinkeeplaw35_low.mono _ _ _ _)
   | (with_reducible exact kinkeepref35_Clone.mono _ _)
   | (with_reducible exact quota_Held.mono _ _)
   | (with_reducible exact quota_Settle.mono _ _ _)
   | (with_reducible exact quota_Valid.mono _ _)
   | (with_reducible exact LeO.refl _)
   | (with_reducible exact LeO.none _)
   | (with_reducible refine LeO.ite ?_ ?_)
   | (with_reducible refine LeO.bind ?_ (fun _ => ?_))
   | exact ih0 _ _ _ _
   | exact ih1 _ _ _ _ _ _
   | exact ih2 _ _ _ _ _ _ _
   | exact ih3 _ _ _ _ _ _ _ _ _
   | exact ih4 _ _ _ _ _ _ _ _ _
   | exact ih5 _ _ _ _ _ _ _ _ _ _
   | exact ih6 _ _ _ _ _ _ _ _ _ _ _ _
   | exact ih7 _ _ _ _ _
   | exact kinkeeplaw35_awake.mono _
   | exact kinkeeplaw35_low.mono _ _ _ _
   | exact kinkeepref35_Clone.mono _ _
   | exact quota_Held.mono _ _
   | exact quota_Settle.mono _ _ _
   | exact quota_Valid.mono _ _
   | exact LeO.none _
   | refine LeO.ite ?_ ?_
   | refine LeO.bind ?_ (fun _ => ?_)
  ·
   intro y0 y1 y2 y3 y4 y5 y6 y7 y8 y9
   unfold kinkeeplaw35_QuotaFinds.l2
   repeat' first
   | (with_reducible exact ih0 _ _ _ _)
   | (with_reducible exact ih1 _ _ _ _ _ _)
   | (with_reducible exact ih2 _ _ _ _ _ _ _)
   | (with_reducible exact ih3 _ _ _ _ _ _ _ _ _)
   | (with_reducible exact ih4 _ _ _ _ _ _ _ _ _)
   | (with_reducible exact ih5 _ _ _ _ _ _ _ _ _ _)
   | (with_reducible exact ih6 _ _ _ _ _ _ _ _ _ _ _ _)
   | (with_reducible exact ih7 _ _ _ _ _)
   | (with_reducible exact kinkeeplaw35_awake.mono _)
   | (with_reducible exact kinkeeplaw35_low.mono _ _ _ _)
   | (with_reducible exact kinkeepref35_Clone.mono _ _)
   | (with_reducible exact quota_Held.mono _ _)
   | (with_reducible exact quota_Settle.mono _ _ _)
   | (with_reducible exact quota_Valid.mono _ _)
   | (with_reducible exact LeO.refl _)
   | (with_reducible exact LeO.none _)
   | (with_reducible refine LeO.ite ?_ ?_)
   | (with_reducible refine LeO.bind ?_ (fun _ => ?_))
   | exact ih0 _ _ _ _
   | exact ih1 _ _ _ _ _ _
   | exact ih2 _ _ _ _ _ _ _
   | exact ih3 _ _ _ _ _ _ _ _ _
   | exact ih4 _ _ _ _ _ _ _ _ _
   | exact ih5 _ _ _ _ _ _ _ _ _ _
   | exact ih6 _ _ _ _ _ _ _ _ _ _ _ _
   | exact ih7 _ _ _ _ _
   | exact kinkeeplaw35_awake.mono _
   | exact kinkeeplaw35_low.mono _ _ _ _
   | exact kinkeepref35_Clone.mono _ _
   | exact quota_Held.mono _ _
   | exact quota_Settle.mono _ _ _
   | exact quota_Valid.mono _ _
   | exact LeO.none _
   | refine LeO.ite ?_ ?_
   | refine LeO.bind ?_ (fun _ => ?_)
  ·
   intro y0 y1 y2 y3 y4 y5 y6 y7 y8 y9 y10 y11
   unfold kinkeeplaw35_QuotaFinds.j6
   repeat' first
   | (with_reducible exact ih0 _ _ _ _)
   | (with_reducible exact ih1 _ _ _ _ _ _)
   | (with_reducible exact ih2 _ _ _ _ _ _ _)
   | (with_reducible exact ih3 _ _ _ _ _ _ _ _ _)
   | (with_reducible exact ih4 _ _ _ _ _ _ _ _ _)
   | (with_reducible exact ih5 _ _ _ _ _ _ _ _ _ _)
   | (with_reducible exact ih6 _ _ _ _ _ _ _ _ _ _ _ _)
   | (with_reducible exact ih7 _ _ _ _ _)
   | (with_reducible exact kinkeeplaw35_awake.mono _)
   | (with_reducible exact kinkeeplaw35_low.mono _ _ _ _)
   | (with_reducible exact kinkeepref35_Clone.mono _ _)
   | (with_reducible exact quota_Held.mono _ _)
   | (with_reducible exact quota_Settle.mono _ _ _)
   | (with_reducible exact quota_Valid.mono _ _)
   | (with_reducible exact LeO.refl _)
   | (with_reducible exact LeO.none _)
   | (with_reducible refine LeO.ite ?_ ?_)
   | (with_reducible refine LeO.bind ?_ (fun _ => ?_))
   | exact ih0 _ _ _ _
   | exact ih1 _ _ _ _ _ _
   | exact ih2 _ _ _ _ _ _ _
   | exact ih3 _ _ _ _ _ _ _ _ _
   | exact ih4 _ _ _ _ _ _ _ _ _
   | exact ih5 _ _ _ _ _ _ _ _ _ _
   | exact ih6 _ _ _ _ _ _ _ _ _ _ _ _
   | exact ih7 _ _ _ _ _
   | exact kinkeeplaw35_awake.mono _
   | exact kinkeeplaw35_low.mono _ _ _ _
   | exact kinkeepref35_Clone.mono _ _
   | exact quota_Held.mono _ _
   | exact quota_Settle.mono _ _ _
   | exact quota_Valid.mono _ _
   | exact LeO.none _
   | refine LeO.ite ?_ ?_
   | refine LeO.bind ?_ (fun _ => ?_)
  ·
   intro y0 y1 y2 y3 y4
   unfold kinkeeplaw35_QuotaFinds.l3
   repeat' first
   | (with_reducible exact ih0 _ _ _ _)
   | (with_reducible exact ih1 _ _ _ _ _ _)
   | (with_reducible exact ih2 _ _ _ _ _ _ _)
   | (with_reducible exact ih3 _ _ _ _ _ _ _ _ _)
   | (with_reducible exact ih4 _ _ _ _ _ _ _ _ _)
   | (with_reducible exact ih5 _ _ _ _ _ _ _ _ _ _)
   | (with_reducible exact ih6 _ _ _ _ _ _ _ _ _ _ _ _)
   | (with_reducible exact ih7 _ _ _ _ _)
   | (with_reducible exact kinkeeplaw35_awake.mono _)
   | (with_reducible exact kinkeeplaw35_low.mono _ _ _ _)
   | (with_reducible exact kinkeepref35_Clone.mono _ _)
   | (with_reducible exact quota_Held.mono _ _)
   | (with_reducible exact quota_Settle.mono _ _ _)
   | (with_reducible exact quota_Valid.mono _ _)
   | (with_reducible exact LeO.refl _)
   | (with_reducible exact LeO.none _)
   | (with_reducible refine LeO.ite ?_ ?_)
   | (with_reducible refine LeO.bind ?_ (fun _ => ?_))
   | exact ih0 _ _ _ _
   | exact ih1 _ _ _ _ _ _
   | exact ih2 _ _ _ _ _ _ _
   | exact ih3 _ _ _ _ _ _ _ _ _
   | exact ih4 _ _ _ _ _ _ _ _ _
   | exact ih5 _ _ _ _ _ _ _ _ _ _
   | exact ih6 _ _ _ _ _ _ _ _ _ _ _ _
   | exact ih7 _ _ _ _ _
   | exact kinkeeplaw35_awake.mono _
   | exact kinkeeplaw35_low.mono _ _ _ _
   | exact kinkeepref35_Clone.mono _ _
   | exact quota_Held.mono _ _
   | exact quota_Settle.mono _ _ _
   | exact quota_Valid.mono _ _
   | exact LeO.none _
   | refine LeO.ite ?_ ?_
   | refine LeO.bind ?_ (fun _ => ?_)
theorem kinkeeplaw35_QuotaFinds.mono : ∀ a0 a1 a2 k, LeO (kinkeeplaw35_QuotaFinds.f k a0 a1 a2) (kinkeeplaw35_QuotaFinds.f (k + 1) a0 a1 a2) := by
 intro a0 a1 a2 k
 obtain ⟨ih0, ih1, ih2, ih3, ih4, ih5, ih6, ih7⟩ := kinkeeplaw35_QuotaFinds.mono_l k
 unfold kinkeeplaw35_QuotaFinds.f
 repeat' first
   | (with_reducible exact ih0 _ _ _ _)
   | (with_reducible exact ih1 _ _ _ _ _ _)
   | (with_reducible exact ih2 _ _ _ _ _ _ _)
   | (with_reducible exact ih3 _ _ _ _ _ _ _ _ _)
   | (with_reducible exact ih4 _ _ _ _ _ _ _ _ _)
   | (with_reducible exact ih5 _ _ _ _ _ _ _ _ _ _)
   | (with_reducible exact ih6 _ _ _ _ _ _ _ _ _ _ _ _)
   | (with_reducible exact ih7 _ _ _ _ _)
   | (with_reducible exact kinkeeplaw35_awake.mono _)
   | (with_reducible exact kinkeeplaw35_low.mono _ _ _ _)
   | (with_reducible exact kinkeepref35_Clone.mono _ _)
   | (with_reducible exact quota_Held.mono _ _)
   | (with_reducible exact quota_Settle.mono _ _ _)
   | (with_reducible exact quota_Valid.mono _ _)
   | (with_reducible exact LeO.refl _)
   | (with_reducible exact LeO.none _)
   | (with_reducible refine LeO.ite ?_ ?_)
   | (with_reducible refine LeO.bind ?_ (fun _ => ?_))
   | exact ih0 _ _ _ _
   | exact ih1 _ _ _ _ _ _
   | exact ih2 _ _ _ _ _ _ _
   | exact ih3 _ _ _ _ _ _ _ _ _
   | exact ih4 _ _ _ _ _ _ _ _ _
   | exact ih5 _ _ _ _ _ _ _ _ _ _
   | exact ih6 _ _ _ _ _ _ _ _ _ _ _ _
   | exact ih7 _ _ _ _ _
   | exact kinkeeplaw35_awake.mono _
   | exact kinkeeplaw35_low.mono _ _ _ _
   | exact kinkeepref35_Clone.mono _ _
   | exact quota_Held.mono _ _
   | exact quota_Settle.mono _ _ _
   | exact quota_Valid.mono _ _
   | exact LeO.none _
   | refine LeO.ite ?_ ?_
   | refine LeO.bind ?_ (fun _ => ?_)
def kinkeeplaw35_QuotaFinds.T26 : Bool × List (List Nat × List Nat) := (true, [([], []), ([], []), ([0, 1], [0, 1]), ([2], [2]), ([], []), ([], []), ([4, 5], [4, 5]), ([6], [6]), ([3, 7], [3, 7]), ([], []), ([], []), ([9, 10], [9, 10]), ([11], [11]), ([], []), ([12, 13], [12, 13]), ([14], [14]), ([], []), ([], []), ([16, 17], [16, 17]), ([18], [18]), ([], []), ([], []), ([20, 21], [20, 21]), ([22], [22]), ([19, 23], [19, 23]), ([8, 15, 24], [8, 15, 24]), ([25, 0, 1, 2, 3, 4, 5, 6, 7, 8, 9, 10, 11, 12, 13, 14, 15, 16, 17, 18, 19, 20, 21, 22, 23, 24, 25], [25])])
def kinkeeplaw35_QuotaFinds.B26 : List Nat := [0, 0, 3, 7, 0, 0, 48, 112, 255, 0, 0, 1536, 3584, 0, 15872, 32256, 0, 0, 196608, 458752, 0, 0, 3145728, 7340032, 16711680, 33554431, 67108863]
theorem kinkeeplaw35_QuotaFinds.tab26 : rtab .any (opsOf Try.f11 26) = kinkeeplaw35_QuotaFinds.T26 := by kernel_rfl
theorem kinkeeplaw35_QuotaFinds.bits26 : waitsOk kinkeeplaw35_QuotaFinds.T26.2 kinkeeplaw35_QuotaFinds.B26 = true := by kernel_rfl
def kinkeeplaw35_QuotaFinds.T28 : Bool × List (List Nat × List Nat) := (true, [([], []), ([], []), ([0, 1], [0, 1]), ([2], [2]), ([], []), ([], []), ([], []), ([5, 6], [5, 6]), ([7], [7]), ([], []), ([8, 9], [8, 9]), ([10], [10]), ([], []), ([11, 12], [11, 12]), ([3, 4, 0, 1, 2, 3, 4, 5, 6, 7, 8, 9, 10, 11, 12, 13], [3, 4]), ([14, 13, 0, 1, 2, 3, 4, 5, 6, 7, 8, 9, 10, 11, 12, 13], [13, 14])])
def kinkeeplaw35_QuotaFinds.B28 : List Nat := [0, 0, 3, 7, 0, 0, 0, 96, 224, 0, 992, 2016, 0, 8160, 16383, 32767]
theorem kinkeeplaw35_QuotaFinds.tab28 : rtab .any (opsOf Try.f11 28) = kinkeeplaw35_QuotaFinds.T28 := by kernel_rfl
theorem kinkeeplaw35_QuotaFinds.bits28 : waitsOk kinkeeplaw35_QuotaFinds.T28.2 kinkeeplaw35_QuotaFinds.B28 = true := by kernel_rfl
def kinkeeplaw35_QuotaFinds.T34 : Bool × List (List Nat × List Nat) := (true, [([], []), ([], []), ([0, 1], [0, 1]), ([2], [2]), ([], []), ([], []), ([4, 5], [4, 5]), ([6], [6]), ([3, 7], [3, 7])])
def kinkeeplaw35_QuotaFinds.B34 : List Nat := [0, 0, 3, 7, 0, 0, 48, 112, 255]
theorem kinkeeplaw35_QuotaFinds.tab34 : rtab .any (opsOf Try.f11 34) = kinkeeplaw35_QuotaFinds.T34 := by kernel_rfl
theorem kinkeeplaw35_QuotaFinds.bits34 : waitsOk kinkeeplaw35_QuotaFinds.T34.2 kinkeeplaw35_QuotaFinds.B34 = true := by kernel_rfl
set_option maxHeartbeats 8000000 in
set_option maxRecDepth 100000 in
theorem kinkeeplaw35_QuotaFinds.calls (k : Nat) (A0 : Option Addr) (c0 : Nat) (l0 : List (List Int)) (A1 : Option Addr) (c1 : Nat) (l1 : List Int) (A2 : Option Addr) (c2 : Nat) (l2 : List Int) (r : Bool) (w : World) (hr0 : Kd.C (Kd.slice 3 (Kd.int .i64)) w A0 l0.length l0) (hc0 : l0.length ≤ c0) (hr1 : Kd.C (Kd.int .i64) w A1 l1.length l1) (hc1 : l1.length ≤ c1) (hr2 : Kd.C (Kd.int .i64) w A2 l2.length l2) (hc2 : l2.length ≤ c2) (h : kinkeeplaw35_QuotaFinds.f k l0 l1 l2 = some r) :
  Calls Try.prog 11 #[.slice A0 l0.length c0, .slice A1 l1.length c1, .slice A2 l2.length c2] w fun e w' => e = .returned (.bool r) ∧ Below w.heap.size w w' := by
 have HR0 := Aside0.mk hr0
 have HC0 := Aside0.mk hc0
 clear hr0 hc0
 have HR1 := Aside0.mk hr1
 have HC1 := Aside0.mk hc1
 clear hr1 hc1
 have HR2 := Aside0.mk hr2
 have HC2 := Aside0.mk hc2
 clear hr2 hc2
 have HB := Aside0.mk (Below.refl w.heap.size w)
 have H : ((kinkeeplaw35_awake.f k).bind fun t622 => (if t622 = true then ((kinkeeplaw35_low.f k l0 12 1000).bind fun t623 => (if t623 = true then ((quota_Valid.f k l0).bind fun t624 => (if t624 = true then (if (l1.length : Int) = (l0.length : Int) then (kinkeeplaw35_QuotaFinds.j0 k l0 l1 l2 (decide ((l2.length : Int) > 12))) else (kinkeeplaw35_QuotaFinds.j0 k l0 l1 l2 true)) else (kinkeeplaw35_QuotaFinds.j0 k l0 l1 l2 true))) else (kinkeeplaw35_QuotaFinds.j0 k l0 l1 l2 true))) else (some false))) = some r := h
 clear h
 replace H := Option.bind_eq_some_iff.mp H
 obtain ⟨t622, A40, H⟩ := H
 replace H : (if t622 = true then ((kinkeeplaw35_low.f k l0 12 1000).bind fun t623 => (if t623 = true then ((quota_Valid.f k l0).bind fun t624 => (if t624 = true then (if (l1.length : Int) = (l0.length : Int) then (kinkeeplaw35_QuotaFinds.j0 k l0 l1 l2 (decide ((l2.length : Int) > 12))) else (kinkeeplaw35_QuotaFinds.j0 k l0 l1 l2 true)) else (kinkeeplaw35_QuotaFinds.j0 k l0 l1 l2 true))) else (kinkeeplaw35_QuotaFinds.j0 k l0 l1 l2 true))) else (some false)) = some r := H
 have A4 := Aside0.mk A40
 clear A40
 by_cases c5 : t622 = true
 ·
  subst c5
  have H1 : ((kinkeeplaw35_low.f k l0 12 1000).bind fun t623 => (if t623 = true then ((quota_Valid.f k l0).bind fun t624 => (if t624 = true then (if (l1.length : Int) = (l0.length : Int) then (kinkeeplaw35_QuotaFinds.j0 k l0 l1 l2 (decide ((l2.length : Int) > 12))) else (kinkeeplaw35_QuotaFinds.j0 k l0 l1 l2 true)) else (kinkeeplaw35_QuotaFinds.j0 k l0 l1 l2 true))) else (kinkeeplaw35_QuotaFinds.j0 k l0 l1 l2 true))) = some r := by rw [if_pos rfl] at H; exact H
  clear H
  have H := H1
  clear H1
  have HC6 := Aside0.mk H
  clear H
  go_enter Try.func11, Try.ntmps11
  go_upto_region 3 with (first | ((with_reducible refine gate_callee (f := 14) rfl ?_); refine goesL_ (some 19) rfl rfl Try.func14 (by kernel_rfl) rfl #[] rfl (by (try simp only [List.map_toArray, List.map_cons, List.map_nil]); first | done | rfl | (simp only [List.length_drop, List.length_take]; rfl)) ?_; (with_reducible refine (kinkeeplaw35_awake.calls k  true _ A4.out).mono ?_); rintro e w7 ⟨rfl, hb⟩; refine ⟨_, rfl, ?_⟩; have n0_ := Aside0.mk (below_step (by repeat (first | (with_reducible first | exact HB.out | apply below_alloc | apply pw_below_drewN | apply below_drew1) | exact HB.out)) hb); clear HB; have HB := n0_; clear n0_; (try clear hb); (try clear hb2); (try clear hk); (try clear hi)))
  (try simp only [Act.put, List.setIfInBounds_toArray, List.set_cons_zero, List.set_cons_succ])
  go_cut [40] (fun v40 wc => ∃ (kq : Nat) (x40_5 : Bool), v40 = .bool x40_5 ∧ Aside0 (kinkeeplaw35_QuotaFinds.j0 kq l0 l1 l2 x40_5 = some r) ∧ Aside0 (kq ≤ k) ∧ Aside0 (Below w.heap.size w wc))
  case first =>
   have H := HC6.out
   clear HC6
   replace H := Option.bind_eq_some_iff.mp H
   obtain ⟨t623, A80, H⟩ := H
   replace H : (if t623 = true then ((quota_Valid.f k l0).bind fun t624 => (if t624 = true then (if (l1.length : Int) = (l0.length : Int) then (kinkeeplaw35_QuotaFinds.j0 k l0 l1 l2 (decide ((l2.length : Int) > 12))) else (kinkeeplaw35_QuotaFinds.j0 k l0 l1 l2 true)) else (kinkeeplaw35_QuotaFinds.j0 k l0 l1 l2 true))) else (kinkeeplaw35_QuotaFinds.j0 k l0 l1 l2 true)) = some r := H
   have A8 := Aside0.mk A80
   clear A80
   by_cases c9 : t623 = true
   ·
    subst c9
    have H1 : ((quota_Valid.f k l0).bind fun t624 => (if t624 = true then (if (l1.length : Int) = (l0.length : Int) then (kinkeeplaw35_QuotaFinds.j0 k l0 l1 l2 (decide ((l2.length : Int) > 12))) else (kinkeeplaw35_QuotaFinds.j0 k l0 l1 l2 true)) else (kinkeeplaw35_QuotaFinds.j0 k l0 l1 l2 true))) = some r := by rw [if_pos rfl] at H; exact H
    clear H
    have H := H1
    clear H1
    replace H := Option.bind_eq_some_iff.mp H
    obtain ⟨t624, A100, H⟩ := H
    replace H : (if t624 = true then (if (l1.length : Int) = (l0.length : Int) then (kinkeeplaw35_QuotaFinds.j0 k l0 l1 l2 (decide ((l2.length : Int) > 12))) else (kinkeeplaw35_QuotaFinds.j0 k l0 l1 l2 true)) else (kinkeeplaw35_QuotaFinds.j0 k l0 l1 l2 true)) = some r := H
    have A10 := Aside0.mk A100
    clear A100
    by_cases c11 : t624 = true
    ·
     subst c11
     have H1 : (if (l1.length : Int) = (l0.length : Int) then (kinkeeplaw35_QuotaFinds.j0 k l0 l1 l2 (decide ((l2.length : Int) > 12))) else (kinkeeplaw35_QuotaFinds.j0 k l0 l1 l2 true)) = some r := by rw [if_pos rfl] at H; exact H
     clear H
     have H := H1
     clear H1
     by_cases c12 : (l1.length : Int) = (l0.length : Int)
     ·
      rw [if_pos c12] at H
      have c12b0 : ((l1.length : Int) == (l0.length : Int)) = true := beq_iff_eq.mpr c12
      have c12b1 : ((l1.length : Int) != (l0.length : Int)) = false := bne_eq_false_iff_eq.mpr c12
      have c12b2 : (l1.length == l0.length) = true := by first | simpa using c12 | (simp at c12 ⊢; omega)
      clear c12
      (first | rw [c12b0] | (simp only [i64_w, i32_w]; rw [c12b0]) | skip)
      have H' := Aside0.mk H
      clear H
      go_wp2_with (first | ((with_reducible refine gate_callee (f := 19) rfl ?_); refine goesL_ (some 22) rfl rfl Try.func19 (by kernel_rfl) rfl #[.slice A0 l0.length c0, .int .i64 12, .int .i64 1000] rfl (by (try simp only [List.map_toArray, List.map_cons, List.map_nil]); first | done | rfl | (simp only [List.length_drop, List.length_take]; rfl)) ?_; (with_reducible refine (kinkeeplaw35_low.calls k _ _ l0 12 1000 true _ ?side1 ?side2 A8.out).mono ?_); (case side1 => repeat (first | exact (Kd.C_below HR0.out HB.out) | (with_reducible refine Kd.C_alloc ?_ _) | (with_reducible refine Kd.C_drewN ?_ _) | (with_reducible refine Kd.C_drew ?_))); (case side2 => exact HC0.out); rintro e w' ⟨rfl, ⟨nd, rfl⟩⟩; refine ⟨_, rfl, ?_⟩) | (go_at_call 18; (with_reducible refine (quota_Valid.calls k _ _ l0 true _ ?side1 ?side2 A10.out).mono ?_); (case side1 => repeat (first | exact (Kd.C_below HR0.out (by repeat (first | (with_reducible first | exact HB.out | apply below_alloc | apply pw_below_drewN | apply below_drew1) | exact HB.out))) | (with_reducible refine Kd.C_alloc ?_ _) | (with_reducible refine Kd.C_drewN ?_ _) | (with_reducible refine Kd.C_drew ?_))); (case side2 => exact HC0.out); rintro e w' ⟨rfl, ⟨nd, rfl⟩⟩))
      go_meet
      case rel => exact ⟨_, (decide ((l2.length : Int) > 12)), (by first | rfl | (simp; done) | (simp [*]; done)), H', ⟨by first | omega | exact Nat.le_refl _⟩, ⟨by repeat (first | (with_reducible first | exact HB.out | apply below_alloc | apply pw_below_drewN | apply below_drew1) | exact HB.out)⟩⟩
     ·
      rw [if_neg c12] at H
      have c12b0 : ((l1.length : Int) == (l0.length : Int)) = false := beq_eq_false_iff_ne.mpr c12
      have c12b1 : ((l1.length : Int) != (l0.length : Int)) = true := bne_iff_ne.mpr c12
      have c12b2 : (l1.length == l0.length) = false := by first | simpa using c12 | (simp at c12 ⊢; omega)
      (first | rw [c12b0] | (simp only [i64_w, i32_w]; rw [c12b0]) | skip)
      have H' := Aside0.mk H
      clear H
      go_wp2_with (first | ((with_reducible refine gate_callee (f := 19) rfl ?_); refine goesL_ (some 22) rfl rfl Try.func19 (by kernel_rfl) rfl #[.slice A0 l0.length c0, .int .i64 12, .int .i64 1000] rfl (by (try simp only [List.map_toArray, List.map_cons, List.map_nil]); first | done | rfl | (simp only [List.length_drop, List.length_take]; rfl)) ?_; (with_reducible refine (kinkeeplaw35_low.calls k _ _ l0 12 1000 true _ ?side1 ?side2 A8.out).mono ?_); (case side1 => repeat (first | exact (Kd.C_below HR0.out HB.out) | (with_reducible refine Kd.C_alloc ?_ _) | (with_reducible refine Kd.C_drewN ?_ _) | (with_reducible refine Kd.C_drew ?_))); (case side2 => exact HC0.out); rintro e w' ⟨rfl, ⟨nd, rfl⟩⟩; refine ⟨_, rfl, ?_⟩) | (go_at_call 18; (with_reducible refine (quota_Valid.calls k _ _ l0 true _ ?side1 ?side2 A10.out).mono ?_); (case side1 => repeat (first | exact (Kd.C_below HR0.out (by repeat (first | (with_reducible first | exact HB.out | apply below_alloc | apply pw_below_drewN | apply below_drew1) | exact HB.out))) | (with_reducible refine Kd.C_alloc ?_ _) | (with_reducible refine Kd.C_drewN ?_ _) | (with_reducible refine Kd.C_drew ?_))); (case side2 => exact HC0.out); rintro e w' ⟨rfl, ⟨nd, rfl⟩⟩))
      go_meet
      case rel => exact ⟨_, (true), (by first | rfl | (simp; done) | (simp [*]; done)), H', ⟨by first | omega | exact Nat.le_refl _⟩, ⟨by repeat (first | (with_reducible first | exact HB.out | apply below_alloc | apply pw_below_drewN | apply below_drew1) | exact HB.out)⟩⟩
    ·
     replace c11 := Bool.eq_false_iff.mpr c11
     subst c11
     have H1 : (kinkeeplaw35_QuotaFinds.j0 k l0 l1 l2 true) = some r := by rw [if_neg (show ¬ (false = true) by decide)] at H; exact H
     clear H
     have H := H1
     clear H1
     have H' := Aside0.mk H
     clear H
     go_wp2_with (first | ((with_reducible refine gate_callee (f := 19) rfl ?_); refine goesL_ (some 22) rfl rfl Try.func19 (by kernel_rfl) rfl #[.slice A0 l0.length c0, .int .i64 12, .int .i64 1000] rfl (by (try simp only [List.map_toArray, List.map_cons, List.map_nil]); first | done | rfl | (simp only [List.length_drop, List.length_take]; rfl)) ?_; (with_reducible refine (kinkeeplaw35_low.calls k _ _ l0 12 1000 true _ ?side1 ?side2 A8.out).mono ?_); (case side1 => repeat (first | exact (Kd.C_below HR0.out HB.out) | (with_reducible refine Kd.C_alloc ?_ _) | (with_reducible refine Kd.C_drewN ?_ _) | (with_reducible refine Kd.C_drew ?_))); (case side2 => exact HC0.out); rintro e w' ⟨rfl, ⟨nd, rfl⟩⟩; refine ⟨_, rfl, ?_⟩) | (go_at_call 18; (with_reducible refine (quota_Valid.calls k _ _ l0 false _ ?side1 ?side2 A10.out).mono ?_); (case side1 => repeat (first | exact (Kd.C_below HR0.out (by repeat (first | (with_reducible first | exact HB.out | apply below_alloc | apply pw_below_drewN | apply below_drew1) | exact HB.out))) | (with_reducible refine Kd.C_alloc ?_ _) | (with_reducible refine Kd.C_drewN ?_ _) | (with_reducible refine Kd.C_drew ?_))); (case side2 => exact HC0.out); rintro e w' ⟨rfl, ⟨nd, rfl⟩⟩))
     go_meet
     case rel => exact ⟨_, (true), (by first | rfl | (simp; done) | (simp [*]; done)), H', ⟨by first | omega | exact Nat.le_refl _⟩, ⟨by repeat (first | (with_reducible first | exact HB.out | apply below_alloc | apply pw_below_drewN | apply below_drew1) | exact HB.out)⟩⟩
   ·
    replace c9 := Bool.eq_false_iff.mpr c9
    subst c9
    have H1 : (kinkeeplaw35_QuotaFinds.j0 k l0 l1 l2 true) = some r := by rw [if_neg (show ¬ (false = true) by decide)] at H; exact H
    clear H
    have H := H1
    clear H1
    have H' := Aside0.mk H
    clear H
    go_wp2_with (first | ((with_reducible refine gate_callee (f := 19) rfl ?_); refine goesL_ (some 22) rfl rfl Try.func19 (by kernel_rfl) rfl #[.slice A0 l0.length c0, .int .i64 12, .int .i64 1000] rfl (by (try simp only [List.map_toArray, List.map_cons, List.map_nil]); first | done | rfl | (simp only [List.length_drop, List.length_take]; rfl)) ?_; (with_reducible refine (kinkeeplaw35_low.calls k _ _ l0 12 1000 false _ ?side1 ?side2 A8.out).mono ?_); (case side1 => repeat (first | exact (Kd.C_below HR0.out HB.out) | (with_reducible refine Kd.C_alloc ?_ _) | (with_reducible refine Kd.C_drewN ?_ _) | (with_reducible refine Kd.C_drew ?_))); (case side2 => exact HC0.out); rintro e w' ⟨rfl, ⟨nd, rfl⟩⟩; refine ⟨_, rfl, ?_⟩))
    go_meet
    case rel => exact ⟨_, (true), (by first | rfl | (simp; done) | (simp [*]; done)), H', ⟨by first | omega | exact Nat.le_refl _⟩, ⟨by repeat (first | (with_reducible first | exact HB.out | apply below_alloc | apply pw_below_drewN | apply below_drew1) | exact HB.out)⟩⟩
  case rest =>
   clear HC6
   try clear c1
   try clear c2
   try clear p2
   try clear c5
   try clear c9
   try clear c11
   try clear c12
   try clear c12b0
   try clear c12b1
   try clear c12b2
   obtain ⟨kq, x40_5, rfl, HA, HJ5, HB⟩ := hcut
   cases kq with
   | zero => exact absurd HA.out (by simp [kinkeeplaw35_QuotaFinds.j0])
   | succ kj5 =>
    have H := HA.out
    clear HA
    simp only [kinkeeplaw35_QuotaFinds.j0] at H
    by_cases c13 : x40_5 = true
    ·
     subst c13
     have H1 : (some true) = some r := by rw [if_pos rfl] at H; exact H
     clear H
     have H := H1
     clear H1
     obtain rfl := Option.some.inj H
     go_wp2
     go_ret
     exact ⟨by first | rfl | (simp [errW_none, errW_some] <;> rfl) | (simp [*, errW_none, errW_some] <;> rfl), by repeat (first | (with_reducible first | exact HB.out | apply below_alloc | apply pw_below_drewN | apply below_drew1) | exact HB.out)⟩
    ·
     replace c13 := Bool.eq_false_iff.mpr c13
     subst c13
     have H1 : ((quota_Settle.f kj5 l0 l1).bind fun bt625 => ((quota_Held.f kj5 l0).bind fun bt629 => (if bt625.2 = 1 then (some true) else (if bt629.2 = 0 then (kinkeeplaw35_QuotaFinds.j1 kj5 l0 l1 l2 bt625.2 bt629.1 ((bt629.1.length : Int) != (l0.length : Int))) else (kinkeeplaw35_QuotaFinds.j1 kj5 l0 l1 l2 bt625.2 bt629.1 true))))) = some r := by rw [if_neg (show ¬ (false = true) by decide)] at H; exact H
     clear H
     have H := H1
     clear H1
     replace H := Option.bind_eq_some_iff.mp H
     obtain ⟨⟨t625, t626⟩, A140, H⟩ := H
     replace H : ((quota_Held.f kj5 l0).bind fun bt629 => (if t626 = 1 then (some true) else (if bt629.2 = 0 then (kinkeeplaw35_QuotaFinds.j1 kj5 l0 l1 l2 t626 bt629.1 ((bt629.1.length : Int) != (l0.length : Int))) else (kinkeeplaw35_QuotaFinds.j1 kj5 l0 l1 l2 t626 bt629.1 true)))) = some r := H
     have A14 := Aside0.mk A140
     clear A140
     replace H := Option.bind_eq_some_iff.mp H
     obtain ⟨⟨t629, t630⟩, A150, H⟩ := H
     replace H : (if t626 = 1 then (some true) else (if t630 = 0 then (kinkeeplaw35_QuotaFinds.j1 kj5 l0 l1 l2 t626 t629 ((t629.length : Int) != (l0.length : Int))) else (kinkeeplaw35_QuotaFinds.j1 kj5 l0 l1 l2 t626 t629 true))) = some r := H
     have A15 := Aside0.mk A150
     clear A150
     by_cases c16 : t626 = 1
     ·
      rw [if_pos c16] at H
      have c16b0 : (t626 == 1) = true := beq_iff_eq.mpr c16
      have c16b1 : (t626 != 1) = false := bne_eq_false_iff_eq.mpr c16
      clear c16
      obtain rfl := Option.some.inj H
      go_wp2_with (first | ((with_reducible refine gate_callee (f := 20) rfl ?_); refine goesL_ (some 44) rfl rfl Try.func20 (by kernel_rfl) rfl #[.slice A0 l0.length c0, .slice A1 l1.length c1] rfl (by (try simp only [List.map_toArray, List.map_cons, List.map_nil]); first | done | rfl | (simp only [List.length_drop, List.length_take]; rfl)) ?_; (with_reducible refine (quota_Settle.calls kj5 _ _ l0 _ _ l1 t625 t626 _ ?side1 ?side2 ?side3 ?side4 A14.out).mono ?_); (case side1 => repeat (first | exact (Kd.C_below HR0.out HB.out) | (with_reducible refine Kd.C_alloc ?_ _) | (with_reducible refine Kd.C_drewN ?_ _) | (with_reducible refine Kd.C_drew ?_))); (case side2 => exact HC0.out); (case side3 => repeat (first | exact (Kd.C_below HR1.out HB.out) | (with_reducible refine Kd.C_alloc ?_ _) | (with_reducible refine Kd.C_drewN ?_ _) | (with_reducible refine Kd.C_drew ?_))); (case side4 => exact HC1.out); rintro e w17 ⟨v627, rfl, ho0, hb⟩; refine ⟨_, rfl, ?_⟩; have n0_ := Aside0.mk (Kd.R_lower ho0 (below_size (by repeat (first | (with_reducible first | exact HB.out | apply below_alloc | apply pw_below_drewN | apply below_drew1) | exact HB.out)))); have n1_ := Aside0.mk (below_step (by repeat (first | (with_reducible first | exact HB.out | apply below_alloc | apply pw_below_drewN | apply below_drew1) | exact HB.out)) hb); clear HB; have HO628 := n0_; have HB := n1_; clear n0_ n1_; (try clear hb); (try clear hb2); (try clear hk); (try clear hi); (try clear ho0)) | ((with_reducible refine gate_callee (f := 21) rfl ?_); refine goesL_ (some 49) rfl rfl Try.func21 (by kernel_rfl) rfl #[.slice A0 l0.length c0] rfl (by (try simp only [List.map_toArray, List.map_cons, List.map_nil]); first | done | rfl | (simp only [List.length_drop, List.length_take]; rfl)) ?_; (with_reducible refine (quota_Held.calls kj5 _ _ l0 t629 t630 _ ?side1 ?side2 A15.out).mono ?_); (case side1 => repeat (first | exact (Kd.C_below HR0.out HB.out) | (with_reducible refine Kd.C_alloc ?_ _) | (with_reducible refine Kd.C_drewN ?_ _) | (with_reducible refine Kd.C_drew ?_))); (case side2 => exact HC0.out); rintro e w18 ⟨v631, rfl, ho0, hb⟩; refine ⟨_, rfl, ?_⟩; have n0_ := Aside0.mk (Kd.R_below (by (with_reducible repeat (first | apply Kd.R_alloc | apply Kd.R_drewN | apply Kd.R_drew)); exact HO628.out) hb); have n1_ := Aside0.mk (Kd.R_lower ho0 (below_size (by repeat (first | (with_reducible first | exact HB.out | apply below_alloc | apply pw_below_drewN | apply below_drew1) | exact HB.out)))); have n2_ := Aside0.mk (below_step (by repeat (first | (with_reducible first | exact HB.out | apply below_alloc | apply pw_below_drewN | apply below_drew1) | exact HB.out)) hb); clear HO628; clear HB; have HO628 := n0_; have HO632 := n1_; have HB := n2_; clear n0_ n1_ n2_; (try clear hb); (try clear hb2); (try clear hk); (try clear hi); (try clear ho0)))
      go_ret
      exact ⟨by first | rfl | (simp [errW_none, errW_some] <;> rfl) | (simp [*, errW_none, errW_some] <;> rfl), by repeat (first | (with_reducible first | exact HB.out | apply below_alloc | apply pw_below_drewN | apply below_drew1) | exact HB.out)⟩
     ·
      rw [if_neg c16] at H
      have c16b0 : (t626 == 1) = false := beq_eq_false_iff_ne.mpr c16
      have c16b1 : (t626 != 1) = true := bne_iff_ne.mpr c16
      have HC19 := Aside0.mk H
      clear H
      go_upto_region 9 with (first | ((with_reducible refine gate_callee (f := 20) rfl ?_); refine goesL_ (some 44) rfl rfl Try.func20 (by kernel_rfl) rfl #[.slice A0 l0.length c0, .slice A1 l1.length c1] rfl (by (try simp only [List.map_toArray, List.map_cons, List.map_nil]); first | done | rfl | (simp only [List.length_drop, List.length_take]; rfl)) ?_; (with_reducible refine (quota_Settle.calls kj5 _ _ l0 _ _ l1 t625 t626 _ ?side1 ?side2 ?side3 ?side4 A14.out).mono ?_); (case side1 => repeat (first | exact (Kd.C_below HR0.out HB.out) | (with_reducible refine Kd.C_alloc ?_ _) | (with_reducible refine Kd.C_drewN ?_ _) | (with_reducible refine Kd.C_drew ?_))); (case side2 => exact HC0.out); (case side3 => repeat (first | exact (Kd.C_below HR1.out HB.out) | (with_reducible refine Kd.C_alloc ?_ _) | (with_reducible refine Kd.C_drewN ?_ _) | (with_reducible refine Kd.C_drew ?_))); (case side4 => exact HC1.out); rintro e w20 ⟨v627, rfl, ho0, hb⟩; refine ⟨_, rfl, ?_⟩; have n0_ := Aside0.mk (Kd.R_lower ho0 (below_size (by repeat (first | (with_reducible first | exact HB.out | apply below_alloc | apply pw_below_drewN | apply below_drew1) | exact HB.out)))); have n1_ := Aside0.mk (below_step (by repeat (first | (with_reducible first | exact HB.out | apply below_alloc | apply pw_below_drewN | apply below_drew1) | exact HB.out)) hb); clear HB; have HO628 := n0_; have HB := n1_; clear n0_ n1_; (try clear hb); (try clear hb2); (try clear hk); (try clear hi); (try clear ho0)) | ((with_reducible refine gate_callee (f := 21) rfl ?_); refine goesL_ (some 49) rfl rfl Try.func21 (by kernel_rfl) rfl #[.slice A0 l0.length c0] rfl (by (try simp only [List.map_toArray, List.map_cons, List.map_nil]); first | done | rfl | (simp only [List.length_drop, List.length_take]; rfl)) ?_; (with_reducible refine (quota_Held.calls kj5 _ _ l0 t629 t630 _ ?side1 ?side2 A15.out).mono ?_); (case side1 => repeat (first | exact (Kd.C_below HR0.out HB.out) | (with_reducible refine Kd.C_alloc ?_ _) | (with_reducible refine Kd.C_drewN ?_ _) | (with_reducible refine Kd.C_drew ?_))); (case side2 => exact HC0.out); rintro e w21 ⟨v631, rfl, ho0, hb⟩; refine ⟨_, rfl, ?_⟩; have n0_ := Aside0.mk (Kd.R_below (by (with_reducible repeat (first | apply Kd.R_alloc | apply Kd.R_drewN | apply Kd.R_drew)); exact HO628.out) hb); have n1_ := Aside0.mk (Kd.R_lower ho0 (below_size (by repeat (first | (with_reducible first | exact HB.out | apply below_alloc | apply pw_below_drewN | apply below_drew1) | exact HB.out)))); have n2_ := Aside0.mk (below_step (by repeat (first | (with_reducible first | exact HB.out | apply below_alloc | apply pw_below_drewN | apply below_drew1) | exact HB.out)) hb); clear HO628; clear HB; have HO628 := n0_; have HO632 := n1_; have HB := n2_; clear n0_ n1_ n2_; (try clear hb); (try clear hb2); (try clear hk); (try clear hi); (try clear ho0)))
      (try simp only [Act.put, List.setIfInBounds_toArray, List.set_cons_zero, List.set_cons_succ])
      go_cut [62] (fun v62 wc => ∃ (kq : Nat) (x62_18 : Bool), v62 = .bool x62_18 ∧ Aside0 (kinkeeplaw35_QuotaFinds.j1 kq l0 l1 l2 t626 t629 x62_18 = some r) ∧ Aside0 (kq ≤ kj5) ∧ Aside0 (Kd.R (Kd.int .i64) 3 wc w.heap.size (fun _ => True) v631 t629) ∧ Aside0 (Below w.heap.size w wc))
      case first =>
       have H := HC19.out
       clear HC19
       by_cases c22 : t630 = 0
       ·
        rw [if_pos c22] at H
        have c22b0 : (t630 == 0) = true := beq_iff_eq.mpr c22
        have c22b1 : (t630 != 0) = false := bne_eq_false_iff_eq.mpr c22
        clear c22
        (first | rw [c22b0] | (simp only [i64_w, i32_w]; rw [c22b0]) | skip)
        have H' := Aside0.mk H
        clear H
        obtain ⟨Ao23, co23, eo23⟩ := Kd.R_slice HO632.out
        subst eo23
        go_wp2
        go_meet
        case rel => exact ⟨_, (((t629.length : Int) != (l0.length : Int))), (by first | rfl | (simp; done) | (simp [*]; done)), H', ⟨by have := HJ5.out; first | omega | exact Nat.le_refl _⟩, ⟨by (with_reducible repeat (first | apply Kd.R_alloc | apply Kd.R_drewN | apply Kd.R_drew)); exact HO632.out⟩, ⟨by repeat (first | (with_reducible first | exact HB.out | apply below_alloc | apply pw_below_drewN | apply below_drew1) | exact HB.out)⟩⟩
       ·
        rw [if_neg c22] at H
        have c22b0 : (t630 == 0) = false := beq_eq_false_iff_ne.mpr c22
        have c22b1 : (t630 != 0) = true := bne_iff_ne.mpr c22
        (first | rw [c22b0] | (simp only [i64_w, i32_w]; rw [c22b0]) | skip)
        have H' := Aside0.mk H
        clear H
        go_wp2
        go_meet
        case rel => exact ⟨_, (true), (by first | rfl | (simp; done) | (simp [*]; done)), H', ⟨by have := HJ5.out; first | omega | exact Nat.le_refl _⟩, ⟨by (with_reducible repeat (first | apply Kd.R_alloc | apply Kd.R_drewN | apply Kd.R_drew)); exact HO632.out⟩, ⟨by repeat (first | (with_reducible first | exact HB.out | apply below_alloc | apply pw_below_drewN | apply below_drew1) | exact HB.out)⟩⟩
      case rest =>
       clear HC19
       try clear c1
       try clear c2
       try clear p2
       try clear c5
       try clear c9
       try clear c11
       try clear c12
       try clear c12b0
       try clear c12b1
       try clear c12b2
       try clear c13
       try clear c14
       try clear c16
       try clear c16b0
       try clear c16b1
       try clear c19
       try clear c20
       try clear c21
       try clear c22
       try clear c22b0
       try clear c22b1
       try clear p2
       obtain ⟨kq, x62_18, rfl, HA, HJ18, HO_9, HB⟩ := hcut
       cases kq with
       | zero => exact absurd HA.out (by simp [kinkeeplaw35_QuotaFinds.j1])
       | succ kj18 =>
        have H := HA.out
        clear HA
        simp only [kinkeeplaw35_QuotaFinds.j1] at H
        by_cases c24 : x62_18 = true
        ·
         subst c24
         have H1 : (some false) = some r := by rw [if_pos rfl] at H; exact H
         clear H
         have H := H1
         clear H1
         obtain rfl := Option.some.inj H
         go_wp2
         go_ret
         exact ⟨by first | rfl | (simp [errW_none, errW_some] <;> rfl) | (simp [*, errW_none, errW_some] <;> rfl), by repeat (first | (with_reducible first | exact HB.out | apply below_alloc | apply pw_below_drewN | apply below_drew1) | exact HB.out)⟩
        ·
         replace c24 := Bool.eq_false_iff.mpr c24
         subst c24
         have H1 : ((kinkeepref35_Clone.f kj18 l0).bind fun t633 => (kinkeeplaw35_QuotaFinds.l0 kj18 l0 l1 l2 t626 t629 t633 0)) = some r := by rw [if_neg (show ¬ (false = true) by decide)] at H; exact H
         clear H
         have H := H1
         clear H1
         replace H := Option.bind_eq_some_iff.mp H
         obtain ⟨t633, A250, H⟩ := H
         replace H : (kinkeeplaw35_QuotaFinds.l0 kj18 l0 l1 l2 t626 t629 t633 0) = some r := H
         have A25 := Aside0.mk A250
         clear A250
         have H' := Aside0.mk H
         clear H
         go_wp2_with (first | ((with_reducible refine gate_callee (f := 32) rfl ?_); refine goesL_ (some 64) rfl rfl Try.func32 (by kernel_rfl) rfl #[.slice A0 l0.length c0] rfl (by (try simp only [List.map_toArray, List.map_cons, List.map_nil]); first | done | rfl | (simp only [List.length_drop, List.length_take]; rfl)) ?_; (with_reducible refine (kinkeepref35_Clone.calls kj18 _ _ l0 t633 _ ?side1 ?side2 A25.out).mono ?_); (case side1 => repeat (first | exact (Kd.C_below HR0.out HB.out) | (with_reducible refine Kd.C_alloc ?_ _) | (with_reducible refine Kd.C_drewN ?_ _) | (with_reducible refine Kd.C_drew ?_))); (case side2 => exact HC0.out); rintro e w26 ⟨v634, rfl, ho0, hb⟩; refine ⟨_, rfl, ?_⟩; have n0_ := Aside0.mk (Kd.R_below (by (with_reducible repeat (first | apply Kd.R_alloc | apply Kd.R_drewN | apply Kd.R_drew)); exact HO_9.out) hb); have n1_ := Aside0.mk (Kd.S_lower (Kd.S_new' ho0 (Kd.R_lt (by (with_reducible repeat (first | apply Kd.R_alloc | apply Kd.R_drewN | apply Kd.R_drew)); exact HO_9.out))) (below_size (by repeat (first | (with_reducible first | exact HB.out | apply below_alloc | apply pw_below_drewN | apply below_drew1) | exact HB.out)))); have n2_ := Aside0.mk (below_step (by repeat (first | (with_reducible first | exact HB.out | apply below_alloc | apply pw_below_drewN | apply below_drew1) | exact HB.out)) hb); clear HO_9; clear HB; have HO_9 := n0_; have HO635 := n1_; have HB := n2_; clear n0_ n1_ n2_; (try clear hb); (try clear hb2); (try clear hk); (try clear hi); (try clear ho0)))
         go_loopg [12] kj18 (fun kq v12 w' => ∃ (x9_3 : List Int) (x11_3 : List (List Int)) (x12_3 : Int), v12 = .int .i64 x12_3 ∧ Aside0 (kinkeeplaw35_QuotaFinds.l0 kq l0 l1 l2 t626 x9_3 x11_3 x12_3 = some r) ∧ Aside0 (kq ≤ kj18) ∧ Aside0 (Kd.R (Kd.int .i64) 3 w' w.heap.size (fun _ => True) v631 x9_3) ∧ Aside0 (Kd.S (Kd.slice 3 (Kd.int .i64)) 31 w' w.heap.size (fun k_ => some k_ ≠ (v631 : Value).ownBlock) v634 x11_3) ∧ Aside0 (Below w.heap.size w w'))
         case atStart => exact ⟨(t629), (t633), (0), (by first | rfl | (simp; done) | (simp [*]; done)), H', ⟨Nat.le_refl _⟩, ⟨by (with_reducible repeat (first | apply Kd.R_alloc | apply Kd.R_drewN | apply Kd.R_drew)); exact HO_9.out⟩, ⟨by (with_reducible repeat (first | apply Kd.S_alloc | apply Kd.S_drewN | apply Kd.S_drew)); exact Kd.S_mono HO635.out (fun _ hk => hk.2)⟩, ⟨by repeat (first | (with_reducible first | exact HB.out | apply below_alloc | apply pw_below_drewN | apply below_drew1) | exact HB.out)⟩⟩
         case round =>
          clear H'
          try clear c1
          try clear c2
          try clear p2
          try clear c3
          try clear c5
          try clear c9
          try clear c11
          try clear c12
          try clear c12b0
          try clear c12b1
          try clear c12b2
          try clear c13
          try clear c14
          try clear c16
          try clear c16b0
          try clear c16b1
          try clear c19
          try clear c20
          try clear c21
          try clear c22
          try clear c22b0
          try clear c22b1
          try clear c24
          try clear p2
          obtain ⟨x9_3, x11_3, x12_3, rfl, HA, HK3, HO_9, HO_11, HB⟩ := hrel
          cases gk with
          | zero => exact absurd HA.out (by simp [kinkeeplaw35_QuotaFinds.l0])
          | succ k3 =>
           have H := HA.out
           clear HA
           simp only [kinkeeplaw35_QuotaFinds.l0] at H
           by_cases c27 : x12_3 < (l2.length : Int)
           ·
            rw [if_pos c27] at H
            have c27b0 : decide (x12_3 < (l2.length : Int)) = true := decide_eq_true c27
            clear c27
            by_cases c28 : 0 ≤ x12_3
            ·
             rw [if_pos c28] at H
             have c28b0 : decide (0 ≤ x12_3) = true := decide_eq_true c28
             clear c28
             have HC29 := Aside0.mk H
             clear H
             have p636 : 0 ≤ (x12_3 : Int) := of_decide_eq_true (by first | (with_reducible assumption) | assumption)
             have q636 : x12_3 < (l2.length : Int) := of_decide_eq_true (by first | (with_reducible assumption) | assumption)
             obtain ⟨ad636, e636, hx636_0⟩ := Kd.at_int HR2.out x12_3 p636 q636
             cases e636
             replace hx636_0 := (HB.out.cell (World.block_lt_of_cell? w _ hx636_0)).trans hx636_0
             replace p636 := eq_true p636
             replace q636 := eq_true q636
             go_upto_region 16 with (fail)
             go_cut [82] (fun v82 wc => ∃ (kq : Nat) (x82_28 : Bool), v82 = .bool x82_28 ∧ Aside0 (kinkeeplaw35_QuotaFinds.j3 kq l0 l1 l2 t626 x9_3 x11_3 x12_3 (rd l2 x12_3) x82_28 = some r) ∧ Aside0 (kq ≤ k3) ∧ Aside0 (Kd.R (Kd.int .i64) 3 wc w.heap.size (fun _ => True) v631 x9_3) ∧ Aside0 (Kd.S (Kd.slice 3 (Kd.int .i64)) 31 wc w.heap.size (fun k_ => some k_ ≠ (v631 : Value).ownBlock) v634 x11_3) ∧ Aside0 (Below w.heap.size w wc))
             case first =>
              have H := HC29.out
              clear HC29
              by_cases c30 : (rd l2 x12_3) < 0
              ·
               rw [if_pos c30] at H
               have c30b0 : decide ((rd l2 x12_3) < 0) = true := decide_eq_true c30
               clear c30
               (first | rw [c30b0] | (simp only [i64_w, i32_w]; rw [c30b0]) | skip)
               have H' := Aside0.mk H
               clear H
               go_wp2
               go_meet
               case rel => exact ⟨_, (true), (by first | rfl | (simp; done) | (simp [*]; done)), H', ⟨by have := HJ5.out; have := HJ18.out; have := HK3.out; first | omega | exact Nat.le_refl _⟩, ⟨by (with_reducible repeat (first | apply Kd.R_alloc | apply Kd.R_drewN | apply Kd.R_drew)); exact HO_9.out⟩, ⟨by (with_reducible repeat (first | apply Kd.S_alloc | apply Kd.S_drewN | apply Kd.S_drew)); exact HO_11.out⟩, ⟨by repeat (first | (with_reducible first | exact HB.out | apply below_alloc | apply pw_below_drewN | apply below_drew1) | exact HB.out)⟩⟩
              ·
               rw [if_neg c30] at H
               have c30b0 : decide ((rd l2 x12_3) < 0) = false := decide_eq_false c30
               clear c30
               (first | rw [c30b0] | (simp only [i64_w, i32_w]; rw [c30b0]) | skip)
               have H' := Aside0.mk H
               clear H
               go_wp2
               go_meet
               case rel => exact ⟨_, (decide ((rd l2 x12_3) ≥ (l0.length : Int))), (by first | rfl | (simp; done) | (simp [*]; done)), H', ⟨by have := HJ5.out; have := HJ18.out; have := HK3.out; first | omega | exact Nat.le_refl _⟩, ⟨by (with_reducible repeat (first | apply Kd.R_alloc | apply Kd.R_drewN | apply Kd.R_drew)); exact HO_9.out⟩, ⟨by (with_reducible repeat (first | apply Kd.S_alloc | apply Kd.S_drewN | apply Kd.S_drew)); exact HO_11.out⟩, ⟨by repeat (first | (with_reducible first | exact HB.out | apply below_alloc | apply pw_below_drewN | apply below_drew1) | exact HB.out)⟩⟩
             case rest =>
              clear HC29
              try clear c1
              try clear c2
              try clear p2
              try clear c3
              try clear c5
              try clear p6
              try clear q6
              try clear hx6
              try clear c9
              try clear c11
              try clear c12
              try clear c12b0
              try clear c12b1
              try clear c12b2
              try clear c13
              try clear c14
              try clear c16
              try clear c16b0
              try clear c16b1
              try clear c19
              try clear c20
              try clear c21
              try clear c22
              try clear c22b0
              try clear c22b1
              try clear c24
              try clear c27
              try clear c27b0
              try clear c28
              try clear c28b0
              try clear c30
              try clear c30b0
              try clear hx636_0
              try clear p2
              try clear p636
              try clear q636
              obtain ⟨kq, x82_28, rfl, HA, HJ28, HO_9, HO_11, HB⟩ := hcut
              cases kq with
              | zero => exact absurd HA.out (by simp [kinkeeplaw35_QuotaFinds.j3])
              | succ kj28 =>
               have H := HA.out
               clear HA
               simp only [kinkeeplaw35_QuotaFinds.j3] at H
               by_cases c31 : x82_28 = true
               ·
                subst c31
                have H1 : (some true) = some r := by rw [if_pos rfl] at H; exact H
                clear H
                have H := H1
                clear H1
                obtain rfl := Option.some.inj H
                go_wp2
                go_ret
                exact ⟨by first | rfl | (simp [errW_none, errW_some] <;> rfl) | (simp [*, errW_none, errW_some] <;> rfl), by repeat (first | (with_reducible first | exact HB.out | apply below_alloc | apply pw_below_drewN | apply below_drew1) | exact HB.out)⟩
               ·
                replace c31 := Bool.eq_false_iff.mpr c31
                subst c31
                have H1 : (kinkeeplaw35_QuotaFinds.l1 kj28 l0 l1 l2 t626 x9_3 x11_3 x12_3 (rd l2 x12_3) 0) = some r := by rw [if_neg (show ¬ (false = true) by decide)] at H; exact H
                clear H
                have H := H1
                clear H1
                have H' := Aside0.mk H
                clear H
                go_wp2
                go_loopg [14] kj28 (fun kq v14 w' => ∃ (x9_5 : List Int) (x11_5 : List (List Int)) (x14_5 : Int), v14 = .int .i64 x14_5 ∧ Aside0 (kinkeeplaw35_QuotaFinds.l1 kq l0 l1 l2 t626 x9_5 x11_5 x12_3 (rd l2 x12_3) x14_5 = some r) ∧ Aside0 (kq ≤ kj28) ∧ Aside0 (Kd.R (Kd.int .i64) 3 w' w.heap.size (fun _ => True) v631 x9_5) ∧ Aside0 (Kd.S (Kd.slice 3 (Kd.int .i64)) 31 w' w.heap.size (fun k_ => some k_ ≠ (v631 : Value).ownBlock) v634 x11_5) ∧ Aside0 (Below w.heap.size w w'))
                case atStart => exact ⟨(x9_3), (x11_3), (0), (by first | rfl | (simp; done) | (simp [*]; done)), H', ⟨Nat.le_refl _⟩, ⟨by (with_reducible repeat (first | apply Kd.R_alloc | apply Kd.R_drewN | apply Kd.R_drew)); exact HO_9.out⟩, ⟨by (with_reducible repeat (first | apply Kd.S_alloc | apply Kd.S_drewN | apply Kd.S_drew)); exact HO_11.out⟩, ⟨by repeat (first | (with_reducible first | exact HB.out | apply below_alloc | apply pw_below_drewN | apply below_drew1) | exact HB.out)⟩⟩
                case round =>
                 clear H'
                 try clear c1
                 try clear c2
                 try clear p2
                 try clear c3
                 try clear c5
                 try clear p6
                 try clear q6
                 try clear hx6
                 try clear c9
                 try clear c11
                 try clear c12
                 try clear c12b0
                 try clear c12b1
                 try clear c12b2
                 try clear c13
                 try clear c14
                 try clear c16
                 try clear c16b0
                 try clear c16b1
                 try clear c19
                 try clear c20
                 try clear c21
                 try clear c22
                 try clear c22b0
                 try clear c22b1
                 try clear c24
                 try clear c27
                 try clear c27b0
                 try clear c28
                 try clear c28b0
                 try clear c30
                 try clear c30b0
                 try clear c31
                 try clear hx636_0
                 try clear p2
                 try clear p6
                 try clear p636
                 try clear q6
                 try clear q636
                 obtain ⟨x9_5, x11_5, x14_5, rfl, HA, HK5, HO_9, HO_11, HB⟩ := hrel
                 cases gk with
                 | zero => exact absurd HA.out (by simp [kinkeeplaw35_QuotaFinds.l1])
                 | succ k5 =>
                  have H := HA.out
                  clear HA
                  simp only [kinkeeplaw35_QuotaFinds.l1] at H
                  by_cases c32 : x14_5 < (l0.length : Int)
                  ·
                   rw [if_pos c32] at H
                   have c32b0 : decide (x14_5 < (l0.length : Int)) = true := decide_eq_true c32
                   clear c32
                   have H' := Aside0.mk H
                   clear H
                   go_wp2
                   go_loopg [15] k5 (fun kq v15 w' => ∃ (x9_6 : List Int) (x11_6 : List (List Int)) (x15_6 : Int), v15 = .int .i64 x15_6 ∧ Aside0 (kinkeeplaw35_QuotaFinds.l2 kq l0 l1 l2 t626 x9_6 x11_6 x12_3 (rd l2 x12_3) x14_5 x15_6 = some r) ∧ Aside0 (kq ≤ k5) ∧ Aside0 (Kd.R (Kd.int .i64) 3 w' w.heap.size (fun _ => True) v631 x9_6) ∧ Aside0 (Kd.S (Kd.slice 3 (Kd.int .i64)) 31 w' w.heap.size (fun k_ => some k_ ≠ (v631 : Value).ownBlock) v634 x11_6) ∧ Aside0 (Below w.heap.size w w'))
                   case atStart => exact ⟨(x9_5), (x11_5), (wrap64 ((l2.length : Int) - 1)), (by first | rfl | (simp; done) | (simp [*]; done)), H', ⟨Nat.le_refl _⟩, ⟨by (with_reducible repeat (first | apply Kd.R_alloc | apply Kd.R_drewN | apply Kd.R_drew)); exact HO_9.out⟩, ⟨by (with_reducible repeat (first | apply Kd.S_alloc | apply Kd.S_drewN | apply Kd.S_drew)); exact HO_11.out⟩, ⟨by repeat (first | (with_reducible first | exact HB.out | apply below_alloc | apply pw_below_drewN | apply below_drew1) | exact HB.out)⟩⟩
                   case round =>
                    clear H'
                    try clear c1
                    try clear c2
                    try clear p2
                    try clear c3
                    try clear c5
                    try clear p6
                    try clear q6
                    try clear hx6
                    try clear c9
                    try clear c11
                    try clear c12
                    try clear c12b0
                    try clear c12b1
                    try clear c12b2
                    try clear c13
                    try clear c14
                    try clear c16
                    try clear c16b0
                    try clear c16b1
                    try clear c19
                    try clear c20
                    try clear c21
                    try clear c22
                    try clear c22b0
                    try clear c22b1
                    try clear c24
                    try clear c27
                    try clear c27b0
                    try clear c28
                    try clear c28b0
                    try clear c30
                    try clear c30b0
                    try clear c31
                    try clear c32
                    try clear c32b0
                    try clear hx636_0
                    try clear p2
                    try clear p6
                    try clear p636
                    try clear q6
                    try clear q636
                    obtain ⟨x9_6, x11_6, x15_6, rfl, HA, HK6, HO_9, HO_11, HB⟩ := hrel
                    cases gk with
                    | zero => exact absurd HA.out (by simp [kinkeeplaw35_QuotaFinds.l2])
                    | succ k6 =>
                     have H := HA.out
                     clear HA
                     simp only [kinkeeplaw35_QuotaFinds.l2] at H
                     by_cases c33 : x15_6 ≥ 0
                     ·
                      rw [if_pos c33] at H
                      have c33b0 : decide (0 ≤ x15_6) = true := decide_eq_true c33
                      clear c33
                      by_cases c34 : 0 ≤ x15_6
                      ·
                       rw [if_pos c34] at H
                       have c34b0 : decide (0 ≤ x15_6) = true := decide_eq_true c34
                       clear c34
                       by_cases c35 : x15_6 < (l2.length : Int)
                       ·
                        rw [if_pos c35] at H
                        have c35b0 : decide (x15_6 < (l2.length : Int)) = true := decide_eq_true c35
                        clear c35
                        have HC36 := Aside0.mk H
                        clear H
                        have p637 : 0 ≤ (x15_6 : Int) := of_decide_eq_true (by first | (with_reducible assumption) | assumption)
                        have q637 : x15_6 < (l2.length : Int) := of_decide_eq_true (by first | (with_reducible assumption) | assumption)
                        obtain ⟨ad637, e637, hx637_0⟩ := Kd.at_int HR2.out x15_6 p637 q637
                        obtain rfl : ad636 = ad637 := (by injection e637)
                        replace hx637_0 := (HB.out.cell (World.block_lt_of_cell? w _ hx637_0)).trans hx637_0
                        replace p637 := eq_true p637
                        replace q637 := eq_true q637
                        go_upto_region 25 with (fail)
                        go_cut [122] (fun v122 wc => ∃ (kq : Nat) (x122_35 : Bool), v122 = .bool x122_35 ∧ Aside0 (kinkeeplaw35_QuotaFinds.j6 kq l0 l1 l2 t626 x9_6 x11_6 x12_3 (rd l2 x12_3) x14_5 x15_6 (rd l2 x15_6) x122_35 = some r) ∧ Aside0 (kq ≤ k6) ∧ Aside0 (Kd.R (Kd.int .i64) 3 wc w.heap.size (fun _ => True) v631 x9_6) ∧ Aside0 (Kd.S (Kd.slice 3 (Kd.int .i64)) 31 wc w.heap.size (fun k_ => some k_ ≠ (v631 : Value).ownBlock) v634 x11_6) ∧ Aside0 (Below w.heap.size w wc))
                        case first =>
                         have H := HC36.out
                         clear HC36
                         by_cases c37 : (rd l2 x15_6) < 0
                         ·
                          rw [if_pos c37] at H
                          have c37b0 : decide ((rd l2 x15_6) < 0) = true := decide_eq_true c37
                          clear c37
                          (first | rw [c37b0] | (simp only [i64_w, i32_w]; rw [c37b0]) | skip)
                          have H' := Aside0.mk H
                          clear H
                          go_wp2
                          go_meet
                          case rel => exact ⟨_, (true), (by first | rfl | (simp; done) | (simp [*]; done)), H', ⟨by have := HJ5.out; have := HJ18.out; have := HK3.out; have := HJ28.out; have := HK5.out; have := HK6.out; first | omega | exact Nat.le_refl _⟩, ⟨by (with_reducible repeat (first | apply Kd.R_alloc | apply Kd.R_drewN | apply Kd.R_drew)); exact HO_9.out⟩, ⟨by (with_reducible repeat (first | apply Kd.S_alloc | apply Kd.S_drewN | apply Kd.S_drew)); exact HO_11.out⟩, ⟨by repeat (first | (with_reducible first | exact HB.out | apply below_alloc | apply pw_below_drewN | apply below_drew1) | exact HB.out)⟩⟩
                         ·
                          rw [if_neg c37] at H
                          have c37b0 : decide ((rd l2 x15_6) < 0) = false := decide_eq_false c37
                          clear c37
                          (first | rw [c37b0] | (simp only [i64_w, i32_w]; rw [c37b0]) | skip)
                          by_cases c38 : (rd l2 x15_6) ≥ (l0.length : Int)
                          ·
                           rw [if_pos c38] at H
                           have c38b0 : decide ((l0.length : Int) ≤ (rd l2 x15_6)) = true := decide_eq_true c38
                           clear c38
                           have H' := Aside0.mk H
                           clear H
                           go_wp2
                           go_meet
                           case rel => exact ⟨_, (true), (by first | rfl | (simp; done) | (simp [*]; done)), H', ⟨by have := HJ5.out; have := HJ18.out; have := HK3.out; have := HJ28.out; have := HK5.out; have := HK6.out; first | omega | exact Nat.le_refl _⟩, ⟨by (with_reducible repeat (first | apply Kd.R_alloc | apply Kd.R_drewN | apply Kd.R_drew)); exact HO_9.out⟩, ⟨by (with_reducible repeat (first | apply Kd.S_alloc | apply Kd.S_drewN | apply Kd.S_drew)); exact HO_11.out⟩, ⟨by repeat (first | (with_reducible first | exact HB.out | apply below_alloc | apply pw_below_drewN | apply below_drew1) | exact HB.out)⟩⟩
                          ·
                           rw [if_neg c38] at H
                           have c38b0 : decide ((l0.length : Int) ≤ (rd l2 x15_6)) = false := decide_eq_false c38
                           clear c38
                           by_cases c39 : (rd l2 x15_6) = (rd l2 x12_3)
                           ·
                            rw [if_pos c39] at H
                            have c39b0 : ((rd l2 x15_6) == (rd l2 x12_3)) = true := beq_iff_eq.mpr c39
                            have c39b1 : ((rd l2 x15_6) != (rd l2 x12_3)) = false := bne_eq_false_iff_eq.mpr c39
                            clear c39
                            have H' := Aside0.mk H
                            clear H
                            go_wp2
                            go_meet
                            case rel => exact ⟨_, (true), (by first | rfl | (simp; done) | (simp [*]; done)), H', ⟨by have := HJ5.out; have := HJ18.out; have := HK3.out; have := HJ28.out; have := HK5.out; have := HK6.out; first | omega | exact Nat.le_refl _⟩, ⟨by (with_reducible repeat (first | apply Kd.R_alloc | apply Kd.R_drewN | apply Kd.R_drew)); exact HO_9.out⟩, ⟨by (with_reducible repeat (first | apply Kd.S_alloc | apply Kd.S_drewN | apply Kd.S_drew)); exact HO_11.out⟩, ⟨by repeat (first | (with_reducible first | exact HB.out | apply below_alloc | apply pw_below_drewN | apply below_drew1) | exact HB.out)⟩⟩
                           ·
                            rw [if_neg c39] at H
                            have c39b0 : ((rd l2 x15_6) == (rd l2 x12_3)) = false := beq_eq_false_iff_ne.mpr c39
                            have c39b1 : ((rd l2 x15_6) != (rd l2 x12_3)) = true := bne_iff_ne.mpr c39
                            by_cases c40 : (rd l2 x15_6) = x14_5
                            ·
                             rw [if_pos c40] at H
                             have c40b0 : ((rd l2 x15_6) == x14_5) = true := beq_iff_eq.mpr c40
                             have c40b1 : ((rd l2 x15_6) != x14_5) = false := bne_eq_false_iff_eq.mpr c40
                             clear c40
                             have H' := Aside0.mk H
                             clear H
                             go_wp2
                             go_meet
                             case rel => exact ⟨_, (true), (by first | rfl | (simp; done) | (simp [*]; done)), H', ⟨by have := HJ5.out; have := HJ18.out; have := HK3.out; have := HJ28.out; have := HK5.out; have := HK6.out; first | omega | exact Nat.le_refl _⟩, ⟨by (with_reducible repeat (first | apply Kd.R_alloc | apply Kd.R_drewN | apply Kd.R_drew)); exact HO_9.out⟩, ⟨by (with_reducible repeat (first | apply Kd.S_alloc | apply Kd.S_drewN | apply Kd.S_drew)); exact HO_11.out⟩, ⟨by repeat (first | (with_reducible first | exact HB.out | apply below_alloc | apply pw_below_drewN | apply below_drew1) | exact HB.out)⟩⟩
                            ·
                             rw [if_neg c40] at H
                             have c40b0 : ((rd l2 x15_6) == x14_5) = false := beq_eq_false_iff_ne.mpr c40
                             have c40b1 : ((rd l2 x15_6) != x14_5) = true := bne_iff_ne.mpr c40
                             have H' := Aside0.mk H
                             clear H
                             go_wp2
                             go_meet
                             case rel => exact ⟨_, ((x14_5 == (rd l2 x12_3))), (by first | rfl | (simp; done) | (simp [*]; done)), H', ⟨by have := HJ5.out; have := HJ18.out; have := HK3.out; have := HJ28.out; have := HK5.out; have := HK6.out; first | omega | exact Nat.le_refl _⟩, ⟨by (with_reducible repeat (first | apply Kd.R_alloc | apply Kd.R_drewN | apply Kd.R_drew)); exact HO_9.out⟩, ⟨by (with_reducible repeat (first | apply Kd.S_alloc | apply Kd.S_drewN | apply Kd.S_drew)); exact HO_11.out⟩, ⟨by repeat (first | (with_reducible first | exact HB.out | apply below_alloc | apply pw_below_drewN | apply below_drew1) | exact HB.out)⟩⟩
                        case rest =>
                         clear HC36
                         try clear c1
                         try clear c2
                         try clear p2
                         try clear c3
                         try clear c4
                         try clear c5
                         try clear p6
                         try clear q6
                         try clear hx6
                         try clear c9
                         try clear c11
                         try clear c12
                         try clear c12b0
                         try clear c12b1
                         try clear c12b2
                         try clear c13
                         try clear c14
                         try clear c16
                         try clear c16b0
                         try clear c16b1
                         try clear c19
                         try clear c20
                         try clear c21
                         try clear c22
                         try clear c22b0
                         try clear c22b1
                         try clear c24
                         try clear c27
                         try clear c27b0
                         try clear c28
                         try clear c28b0
                         try clear c30
                         try clear c30b0
                         try clear c31
                         try clear c32
                         try clear c32b0
                         try clear c33
                         try clear c33b0
                         try clear c34
                         try clear c34b0
                         try clear c35
                         try clear c35b0
                         try clear c37
                         try clear c37b0
                         try clear c38
                         try clear c38b0
                         try clear c39
                         try clear c39b0
                         try clear c39b1
                         try clear c40
                         try clear c40b0
                         try clear c40b1
                         try clear hx636_0
                         try clear hx637_0
                         try clear p2
                         try clear p6
                         try clear p636
                         try clear p637
                         try clear q6
                         try clear q636
                         try clear q637
                         obtain ⟨kq, x122_35, rfl, HA, HJ35, HO_9, HO_11, HB⟩ := hcut
                         cases kq with
                         | zero => exact absurd HA.out (by simp [kinkeeplaw35_QuotaFinds.j6])
                         | succ kj35 =>
                          have H := HA.out
                          clear HA
                          simp only [kinkeeplaw35_QuotaFinds.j6] at H
                          by_cases c41 : x122_35 = true
                          ·
                           subst c41
                           have H1 : (kinkeeplaw35_QuotaFinds.l2 kj35 l0 l1 l2 t626 x9_6 x11_6 x12_3 (rd l2 x12_3) x14_5 (wrap64 (x15_6 - 1))) = some r := by rw [if_pos rfl] at H; exact H
                           clear H
                           have H := H1
                           clear H1
                           have H' := Aside0.mk H
                           clear H
                           go_wp2
                           go_roundg kj35
                           case measure => have := HJ5.out; have := HJ18.out; have := HK3.out; have := HJ28.out; have := HK5.out; have := HK6.out; have := HJ35.out; omega
                           case rel => exact ⟨(x9_6), (x11_6), (wrap64 (x15_6 - 1)), (by first | rfl | (simp; done) | (simp [*]; done)), H', ⟨by have := HJ5.out; have := HJ18.out; have := HK3.out; have := HJ28.out; have := HK5.out; have := HK6.out; have := HJ35.out; omega⟩, ⟨by (with_reducible repeat (first | apply Kd.R_alloc | apply Kd.R_drewN | apply Kd.R_drew)); exact HO_9.out⟩, ⟨by (with_reducible repeat (first | apply Kd.S_alloc | apply Kd.S_drewN | apply Kd.S_drew)); exact HO_11.out⟩, ⟨by repeat (first | (with_reducible first | exact HB.out | apply below_alloc | apply pw_below_drewN | apply below_drew1) | exact HB.out)⟩⟩
                          ·
                           replace c41 := Bool.eq_false_iff.mpr c41
                           subst c41
                           have H1 : (if 0 ≤ (rd l2 x12_3) then (if (rd l2 x12_3) < (x9_6.length : Int) then (if (rd l2 x12_3) < (l1.length : Int) then (if (rd l2 x12_3) < (x11_6.length : Int) then (if 0 ≤ x14_5 then (if x14_5 < ((rd_L1 x11_6 (rd l2 x12_3)).length : Int) then (if 0 ≤ (rd l2 x15_6) then (if (rd l2 x15_6) < (l1.length : Int) then (if (rd l2 x15_6) < (x9_6.length : Int) then (if (mn (mn (wrap64 ((rd x9_6 (rd l2 x12_3)) - (rd l1 (rd l2 x12_3)))) (rd (rd_L1 x11_6 (rd l2 x12_3)) x14_5)) (wrap64 ((rd l1 (rd l2 x15_6)) - (rd x9_6 (rd l2 x15_6))))) > 0 then ((some (x9_6.set ((rd l2 x12_3) : Int).toNat (wrap64 ((rd x9_6 (rd l2 x12_3)) - (mn (mn (wrap64 ((rd x9_6 (rd l2 x12_3)) - (rd l1 (rd l2 x12_3)))) (rd (rd_L1 x11_6 (rd l2 x12_3)) x14_5)) (wrap64 ((rd l1 (rd l2 x15_6)) - (rd x9_6 (rd l2 x15_6))))))) : List Int)).bind fun y651 => (kinkeeplaw35_QuotaFinds.l2 kj35 l0 l1 l2 t626 (y651.set ((rd l2 x15_6) : Int).toNat (wrap64 ((rd y651 (rd l2 x15_6)) + (mn (mn (wrap64 ((rd x9_6 (rd l2 x12_3)) - (rd l1 (rd l2 x12_3)))) (rd (rd_L1 x11_6 (rd l2 x12_3)) x14_5)) (wrap64 ((rd l1 (rd l2 x15_6)) - (rd x9_6 (rd l2 x15_6)))))))) (x11_6.set ((rd l2 x12_3) : Int).toNat ((rd_L1 x11_6 (rd l2 x12_3)).set (x14_5 : Int).toNat (wrap64 ((rd (rd_L1 x11_6 (rd l2 x12_3)) x14_5) - (mn (mn (wrap64 ((rd x9_6 (rd l2 x12_3)) - (rd l1 (rd l2 x12_3)))) (rd (rd_L1 x11_6 (rd l2 x12_3)) x14_5)) (wrap64 ((rd l1 (rd l2 x15_6)) - (rd x9_6 (rd l2 x15_6))))))))) x12_3 (rd l2 x12_3) x14_5 (wrap64 (x15_6 - 1)))) else (kinkeeplaw35_QuotaFinds.l2 kj35 l0 l1 l2 t626 x9_6 x11_6 x12_3 (rd l2 x12_3) x14_5 (wrap64 (x15_6 - 1)))) else (none)) else (none)) else (none)) else (none)) else (none)) else (none)) else (none)) else (none)) else (none)) = some r := by rw [if_neg (show ¬ (false = true) by decide)] at H; exact H
                           clear H
                           have H := H1
                           clear H1
                           by_cases c42 : 0 ≤ (rd l2 x12_3)
                           ·
                            rw [if_pos c42] at H
                            have c42b0 : decide (0 ≤ (rd l2 x12_3)) = true := decide_eq_true c42
                            clear c42
                            by_cases c43 : (rd l2 x12_3) < (x9_6.length : Int)
                            ·
                             rw [if_pos c43] at H
                             have c43b0 : decide ((rd l2 x12_3) < (x9_6.length : Int)) = true := decide_eq_true c43
                             clear c43
                             by_cases c44 : (rd l2 x12_3) < (l1.length : Int)
                             ·
                              rw [if_pos c44] at H
                              have c44b0 : decide ((rd l2 x12_3) < (l1.length : Int)) = true := decide_eq_true c44
                              clear c44
                              by_cases c45 : (rd l2 x12_3) < (x11_6.length : Int)
                              ·
                               rw [if_pos c45] at H
                               have c45b0 : decide ((rd l2 x12_3) < (x11_6.length : Int)) = true := decide_eq_true c45
                               clear c45
                               by_cases c46 : 0 ≤ x14_5
                               ·
                                rw [if_pos c46] at H
                                have c46b0 : decide (0 ≤ x14_5) = true := decide_eq_true c46
                                clear c46
                                by_cases c47 : x14_5 < ((rd_L1 x11_6 (rd l2 x12_3)).length : Int)
                                ·
                                 rw [if_pos c47] at H
                                 have c47b0 : decide (x14_5 < ((rd_L1 x11_6 (rd l2 x12_3)).length : Int)) = true := decide_eq_true c47
                                 clear c47
                                 by_cases c48 : 0 ≤ (rd l2 x15_6)
                                 ·
                                  rw [if_pos c48] at H
                                  have c48b0 : decide (0 ≤ (rd l2 x15_6)) = true := decide_eq_true c48
                                  clear c48
                                  by_cases c49 : (rd l2 x15_6) < (l1.length : Int)
                                  ·
                                   rw [if_pos c49] at H
                                   have c49b0 : decide ((rd l2 x15_6) < (l1.length : Int)) = true := decide_eq_true c49
                                   clear c49
                                   by_cases c50 : (rd l2 x15_6) < (x9_6.length : Int)
                                   ·
                                    rw [if_pos c50] at H
                                    have c50b0 : decide ((rd l2 x15_6) < (x9_6.length : Int)) = true := decide_eq_true c50
                                    clear c50
                                    obtain ⟨ji51, hji51⟩ : ∃ j_ : Int, (mn (wrap64 ((rd x9_6 (rd l2 x12_3)) - (rd l1 (rd l2 x12_3)))) (rd (rd_L1 x11_6 (rd l2 x12_3)) x14_5)) = j_ := ⟨_, rfl⟩
                                    replace H : (if (mn (ji51) (wrap64 ((rd l1 (rd l2 x15_6)) - (rd x9_6 (rd l2 x15_6))))) > 0 then ((some (x9_6.set ((rd l2 x12_3) : Int).toNat (wrap64 ((rd x9_6 (rd l2 x12_3)) - (mn (ji51) (wrap64 ((rd l1 (rd l2 x15_6)) - (rd x9_6 (rd l2 x15_6))))))) : List Int)).bind fun y651 => (kinkeeplaw35_QuotaFinds.l2 kj35 l0 l1 l2 t626 (y651.set ((rd l2 x15_6) : Int).toNat (wrap64 ((rd y651 (rd l2 x15_6)) + (mn (ji51) (wrap64 ((rd l1 (rd l2 x15_6)) - (rd x9_6 (rd l2 x15_6)))))))) (x11_6.set ((rd l2 x12_3) : Int).toNat ((rd_L1 x11_6 (rd l2 x12_3)).set (x14_5 : Int).toNat (wrap64 ((rd (rd_L1 x11_6 (rd l2 x12_3)) x14_5) - (mn (ji51) (wrap64 ((rd l1 (rd l2 x15_6)) - (rd x9_6 (rd l2 x15_6))))))))) x12_3 (rd l2 x12_3) x14_5 (wrap64 (x15_6 - 1)))) else (kinkeeplaw35_QuotaFinds.l2 kj35 l0 l1 l2 t626 x9_6 x11_6 x12_3 (rd l2 x12_3) x14_5 (wrap64 (x15_6 - 1)))) = some r := by first | (rw [hji51] at H; exact H) | (simp only [hji51] at H ⊢; exact H)
                                    have hji51_ : (if (rd (rd_L1 x11_6 (rd l2 x12_3)) x14_5) < (wrap64 ((rd x9_6 (rd l2 x12_3)) - (rd l1 (rd l2 x12_3)))) then (rd (rd_L1 x11_6 (rd l2 x12_3)) x14_5) else (wrap64 ((rd x9_6 (rd l2 x12_3)) - (rd l1 (rd l2 x12_3))))) = ji51 := hji51
                                    obtain ⟨ji52, hji52⟩ : ∃ j_ : Int, (mn (ji51) (wrap64 ((rd l1 (rd l2 x15_6)) - (rd x9_6 (rd l2 x15_6))))) = j_ := ⟨_, rfl⟩
                                    replace H : (if (ji52) > 0 then ((some (x9_6.set ((rd l2 x12_3) : Int).toNat (wrap64 ((rd x9_6 (rd l2 x12_3)) - (ji52))) : List Int)).bind fun y651 => (kinkeeplaw35_QuotaFinds.l2 kj35 l0 l1 l2 t626 (y651.set ((rd l2 x15_6) : Int).toNat (wrap64 ((rd y651 (rd l2 x15_6)) + (ji52)))) (x11_6.set ((rd l2 x12_3) : Int).toNat ((rd_L1 x11_6 (rd l2 x12_3)).set (x14_5 : Int).toNat (wrap64 ((rd (rd_L1 x11_6 (rd l2 x12_3)) x14_5) - (ji52))))) x12_3 (rd l2 x12_3) x14_5 (wrap64 (x15_6 - 1)))) else (kinkeeplaw35_QuotaFinds.l2 kj35 l0 l1 l2 t626 x9_6 x11_6 x12_3 (rd l2 x12_3) x14_5 (wrap64 (x15_6 - 1)))) = some r := by first | (rw [hji52] at H; exact H) | (simp only [hji52] at H ⊢; exact H)
                                    have hji52_ : (if (wrap64 ((rd l1 (rd l2 x15_6)) - (rd x9_6 (rd l2 x15_6)))) < (ji51) then (wrap64 ((rd l1 (rd l2 x15_6)) - (rd x9_6 (rd l2 x15_6)))) else (ji51)) = ji52 := hji52
                                    by_cases c53 : (ji52) > 0
                                    ·
                                     as_aux_lemma =>
                                      rw [if_pos c53] at H
                                      have c53b0 : decide (0 < (ji52)) = true := decide_eq_true c53
                                      clear c53
                                      obtain ⟨y647, hy647⟩ : ∃ y_ : List Int, y_ = ((rd_L1 x11_6 (rd l2 x12_3)).set (x14_5 : Int).toNat (wrap64 ((rd (rd_L1 x11_6 (rd l2 x12_3)) x14_5) - (ji52)))) := ⟨_, rfl⟩
                                      replace H : ((some (x9_6.set ((rd l2 x12_3) : Int).toNat (wrap64 ((rd x9_6 (rd l2 x12_3)) - (ji52))) : List Int)).bind fun y651 => (kinkeeplaw35_QuotaFinds.l2 kj35 l0 l1 l2 t626 (y651.set ((rd l2 x15_6) : Int).toNat (wrap64 ((rd y651 (rd l2 x15_6)) + (ji52)))) (x11_6.set ((rd l2 x12_3) : Int).toNat y647) x12_3 (rd l2 x12_3) x14_5 (wrap64 (x15_6 - 1)))) = some r := by first | (rw [hy647]; with_reducible exact H) | (have H2_ := (Option.bind_some _ _).symm.trans H; rw [hy647]; with_reducible exact H2_) | (have H2_ := (Option.bind_some _ _).symm.trans H; with_reducible exact H2_) | with_reducible exact H | (rw [hy647]; exact H) | exact H
                                      have Ny647 := Aside0.mk hy647
                                      clear hy647
                                      obtain ⟨y649, hy649⟩ : ∃ y_ : List (List Int), y_ = (x11_6.set ((rd l2 x12_3) : Int).toNat y647) := ⟨_, rfl⟩
                                      replace H : ((some (x9_6.set ((rd l2 x12_3) : Int).toNat (wrap64 ((rd x9_6 (rd l2 x12_3)) - (ji52))) : List Int)).bind fun y651 => (kinkeeplaw35_QuotaFinds.l2 kj35 l0 l1 l2 t626 (y651.set ((rd l2 x15_6) : Int).toNat (wrap64 ((rd y651 (rd l2 x15_6)) + (ji52)))) y649 x12_3 (rd l2 x12_3) x14_5 (wrap64 (x15_6 - 1)))) = some r := by first | (rw [hy649]; with_reducible exact H) | (have H2_ := (Option.bind_some _ _).symm.trans H; rw [hy649]; with_reducible exact H2_) | (have H2_ := (Option.bind_some _ _).symm.trans H; with_reducible exact H2_) | with_reducible exact H | (rw [hy649]; exact H) | exact H
                                      have Ny649 := Aside0.mk hy649
                                      clear hy649
                                      obtain ⟨y651, hy651⟩ : ∃ y_ : List Int, y_ = (x9_6.set ((rd l2 x12_3) : Int).toNat (wrap64 ((rd x9_6 (rd l2 x12_3)) - (ji52)))) := ⟨_, rfl⟩
                                      replace H : (kinkeeplaw35_QuotaFinds.l2 kj35 l0 l1 l2 t626 (y651.set ((rd l2 x15_6) : Int).toNat (wrap64 ((rd y651 (rd l2 x15_6)) + (ji52)))) y649 x12_3 (rd l2 x12_3) x14_5 (wrap64 (x15_6 - 1))) = some r := by first | (rw [hy651]; with_reducible exact H) | (have H2_ := (Option.bind_some _ _).symm.trans H; rw [hy651]; with_reducible exact H2_) | (have H2_ := (Option.bind_some _ _).symm.trans H; with_reducible exact H2_) | with_reducible exact H | (rw [hy651]; exact H) | exact H
                                      have Ny651 := Aside0.mk hy651
                                      clear hy651
                                      obtain ⟨y653, hy653⟩ : ∃ y_ : List Int, y_ = (y651.set ((rd l2 x15_6) : Int).toNat (wrap64 ((rd y651 (rd l2 x15_6)) + (ji52)))) := ⟨_, rfl⟩
                                      replace H : (kinkeeplaw35_QuotaFinds.l2 kj35 l0 l1 l2 t626 y653 y649 x12_3 (rd l2 x12_3) x14_5 (wrap64 (x15_6 - 1))) = some r := by first | (rw [hy653]; with_reducible exact H) | (have H2_ := (Option.bind_some _ _).symm.trans H; rw [hy653]; with_reducible exact H2_) | (have H2_ := (Option.bind_some _ _).symm.trans H; with_reducible exact H2_) | with_reducible exact H | (rw [hy653]; exact H) | exact H
                                      have Ny653 := Aside0.mk hy653
                                      clear hy653
                                      have H' := Aside0.mk H
                                      clear H
                                      try go_wp2
                                      have n0_ := Aside0.mk (Kd.R_drew HO_9.out)
                                      have n1_ := Aside0.mk (Kd.S_drew HO_11.out)
                                      have n2_ := Aside0.mk (below_drew1 HB.out)
                                      clear HO_9
                                      clear HO_11
                                      clear HB
                                      have HO_9 := n0_
                                      have HO_11 := n1_
                                      have HB := n2_
                                      clear n0_ n1_ n2_
                                      obtain ⟨Ao58, co58, eo58⟩ := Kd.R_slice HO_9.out
                                      (first | subst eo58 | (injection eo58 with f1_ f2_ f3_; have f4_ := f1_.symm; have f5_ := f3_.symm; clear f1_ f2_ f3_; subst f4_; subst f5_))
                                      have p638 : 0 ≤ ((rd l2 x12_3) : Int) := of_decide_eq_true (by first | (with_reducible assumption) | assumption)
                                      have q638 : (rd l2 x12_3) < (x9_6.length : Int) := of_decide_eq_true (by first | (with_reducible assumption) | assumption)
                                      obtain ⟨ad638, e638, hx638_0⟩ := Kd.at_int (Kd.R_reads' HO_9.out).2.2 (rd l2 x12_3) p638 q638
                                      cases e638
                                      replace p638 := eq_true p638
                                      replace q638 := eq_true q638
                                      have p639 : 0 ≤ ((rd l2 x12_3) : Int) := of_decide_eq_true (by first | (with_reducible assumption) | assumption)
                                      have q639 : (rd l2 x12_3) < (l1.length : Int) := of_decide_eq_true (by first | (with_reducible assumption) | assumption)
                                      obtain ⟨ad639, e639, hx639_0⟩ := Kd.at_int HR1.out (rd l2 x12_3) p639 q639
                                      have hw639_0 := hx639_0
                                      cases e639
                                      replace hx639_0 := (HB.out.cell (World.block_lt_of_cell? w _ hx639_0)).trans hx639_0
                                      replace p639 := eq_true p639
                                      replace q639 := eq_true q639
                                      obtain ⟨Ao59, co59, eo59⟩ := Kd.S_slice HO_11.out
                                      (first | subst eo59 | (injection eo59 with f1_ f2_ f3_; have f4_ := f1_.symm; have f5_ := f3_.symm; clear f1_ f2_ f3_; subst f4_; subst f5_))
                                      have p640 : 0 ≤ ((rd l2 x12_3) : Int) := of_decide_eq_true (by first | (with_reducible assumption) | assumption)
                                      have q640 : (rd l2 x12_3) < (x11_6.length : Int) := of_decide_eq_true (by first | (with_reducible assumption) | assumption)
                                      obtain ⟨ad640, A640_0, c640_0, e640, hx640_0, hl640_0, hi640_0⟩ := at_L1 (Kd.S_reads' HO_11.out).2.2 (rd l2 x12_3) p640 q640
                                      cases e640
                                      obtain ⟨ce640, hce640, hMe640, hcc640⟩ := Kd.S_get HO_11.out [] (rd l2 x12_3) p640 (by first | exact q640 | exact of_decide_eq_true (by first | (with_reducible assumption) | assumption) | (have e_ := (Kd.S_reads' HO_11.out).1; omega))
                                      obtain ⟨ve640_0, rfl, ge640_0⟩ := hMe640
                                      have hv640_0 := hcc640 0 _ rfl
                                      rw [Nat.add_zero, show ((Kd.slice 3 (Kd.int .i64))).sz = 1 from rfl, Nat.mul_one] at hv640_0
                                      replace hv640_0 := Option.some.inj (hv640_0.symm.trans hx640_0)
                                      rw [hv640_0] at ge640_0
                                      have HL640_0 := Aside0.mk (show Kd.R (Kd.int .i64) 3 _ _ _ _ (rd_L1 x11_6 (rd l2 x12_3)) from ge640_0)
                                      clear hv640_0 ge640_0
                                      have HX640_0 := Aside0.mk hx640_0
                                      clear hcc640 hce640
                                      have HR640_0 := Aside0.mk hi640_0
                                      have HC640_0 := Aside0.mk hl640_0
                                      clear hi640_0 hl640_0
                                      replace p640 := eq_true p640
                                      replace q640 := eq_true q640
                                      have p641 : 0 ≤ (x14_5 : Int) := of_decide_eq_true (by first | (with_reducible assumption) | assumption)
                                      have q641 : x14_5 < ((rd_L1 x11_6 (rd l2 x12_3)).length : Int) := of_decide_eq_true (by first | (with_reducible assumption) | assumption)
                                      obtain ⟨ad641, e641, hx641_0⟩ := Kd.at_int (by repeat (first | (with_reducible exact HR640_0.out) | (with_reducible refine Kd.C_alloc ?_ _) | (with_reducible refine Kd.C_drewN ?_ _) | (with_reducible refine Kd.C_drew ?_) | exact HR640_0.out)) x14_5 p641 q641
                                      cases e641
                                      replace p641 := eq_true p641
                                      replace q641 := eq_true q641
                                      have p642 : 0 ≤ ((rd l2 x15_6) : Int) := of_decide_eq_true (by first | (with_reducible assumption) | assumption)
                                      have q642 : (rd l2 x15_6) < (l1.length : Int) := of_decide_eq_true (by first | (with_reducible assumption) | assumption)
                                      obtain ⟨ad642, e642, hx642_0⟩ := Kd.at_int HR1.out (rd l2 x15_6) p642 q642
                                      have hw642_0 := hx642_0
                                      obtain rfl : ad639 = ad642 := (by injection e642)
                                      replace hx642_0 := (HB.out.cell (World.block_lt_of_cell? w _ hx642_0)).trans hx642_0
                                      replace p642 := eq_true p642
                                      replace q642 := eq_true q642
                                      have p643 : 0 ≤ ((rd l2 x15_6) : Int) := of_decide_eq_true (by first | (with_reducible assumption) | assumption)
                                      have q643 : (rd l2 x15_6) < (x9_6.length : Int) := of_decide_eq_true (by first | (with_reducible assumption) | assumption)
                                      obtain ⟨ad643, e643, hx643_0⟩ := Kd.at_int (Kd.R_reads' HO_9.out).2.2 (rd l2 x15_6) p643 q643
                                      obtain rfl : ad638 = ad643 := (by injection e643)
                                      replace p643 := eq_true p643
                                      replace q643 := eq_true q643
                                      refine start_ (n := 27) (S := fun w' => w'.cell? (ad638.add ((rd l2 x12_3)).toNat) = some (.int .i64 (rd x9_6 (rd l2 x12_3))) ∧ w'.cell? (ad639.add ((rd l2 x12_3)).toNat) = some (.int .i64 (rd l1 (rd l2 x12_3))) ∧ w'.cell? (ad640.add ((rd l2 x12_3)).toNat) = some (.slice (some ad641) (rd_L1 x11_6 (rd l2 x12_3)).length c640_0) ∧ w'.cell? (ad641.add (x14_5).toNat) = some (.int .i64 (rd (rd_L1 x11_6 (rd l2 x12_3)) x14_5)) ∧ w'.cell? (ad639.add ((rd l2 x15_6)).toNat) = some (.int .i64 (rd l1 (rd l2 x15_6))) ∧ w'.cell? (ad638.add ((rd l2 x15_6)).toNat) = some (.int .i64 (rd x9_6 (rd l2 x15_6)))) (ds := []) #[false, false, false, false, false, false, false, false, false, false, false, false, false, false, false, false, false, false, false, false, false, false, false, false, false, false, false] (by kernel_rfl) rfl rfl ⟨hx638_0, ((HB.out.cell (World.block_lt_of_cell? w _ hw639_0)).trans hw639_0), hx640_0, hx641_0, ((HB.out.cell (World.block_lt_of_cell? w _ hw642_0)).trans hw642_0), hx643_0⟩ (fun hHeld => ?_); refine with_tabW kinkeeplaw35_QuotaFinds.tab26 kinkeeplaw35_QuotaFinds.bits26 (fun HT_ HW_ => ?_)
                                      generalize wc.drew = w57 at HO_9 HO_11 HB HL640_0 HR640_0 HX640_0 hx638_0 hx639_0 hx640_0 hx641_0 hx642_0 hx643_0 hHeld ⊢
                                      refine pure_ (i := 0) (N := some 123) (v := ?_) (a' := ?_) #[true, false, false, false, false, false, false, false, false, false, false, false, false, false, false, false, false, false, false, false, false, false, false, false, false, false, false] rfl rfl (any_of HT_.out (by kernel_rfl)) (fun _ _ _ h => h) (Or.inl ⟨by rfl, ?_⟩) ?_ ?_
                                      rotate_left
                                      ·
                                       intro w'
                                       go_simp
                                       with_reducible rfl
                                      rotate_left
                                      ·
                                       simp only [Act.put, List.setIfInBounds_toArray, List.set_cons_zero, List.set_cons_succ, i64_w, i32_w]
                                       rfl
                                      refine pure_ (i := 1) (N := some 124) (v := ?_) (a' := ?_) #[true, true, false, false, false, false, false, false, false, false, false, false, false, false, false, false, false, false, false, false, false, false, false, false, false, false, false] rfl rfl (any_of HT_.out (by kernel_rfl)) (fun _ _ _ h => h) (Or.inl ⟨by rfl, ?_⟩) ?_ ?_
                                      rotate_left
                                      ·
                                       intro w'
                                       go_simp
                                       with_reducible rfl
                                      rotate_left
                                      ·
                                       simp only [Act.put, List.setIfInBounds_toArray, List.set_cons_zero, List.set_cons_succ, i64_w, i32_w]
                                       rfl
                                      refine pure_ (i := 2) (N := some 125) (v := ?_) (a' := ?_) #[true, true, true, false, false, false, false, false, false, false, false, false, false, false, false, false, false, false, false, false, false, false, false, false, false, false, false] rfl rfl (any_of HT_.out (by kernel_rfl)) (fun _ _ _ h => h) (Or.inl ⟨by rfl, ?_⟩) ?_ ?_
                                      rotate_left
                                      ·
                                       intro w'
                                       go_simp
                                       with_reducible rfl
                                      rotate_left
                                      ·
                                       simp only [Act.put, List.setIfInBounds_toArray, List.set_cons_zero, List.set_cons_succ, i64_w, i32_w]
                                       rfl
                                      refine pure_ (i := 4) (N := some 127) (v := ?_) (a' := ?_) #[true, true, true, false, true, false, false, false, false, false, false, false, false, false, false, false, false, false, false, false, false, false, false, false, false, false, false] rfl rfl (any_of HT_.out (by kernel_rfl)) (fun _ _ _ h => h) (Or.inl ⟨by rfl, ?_⟩) ?_ ?_
                                      rotate_left
                                      ·
                                       intro w'
                                       go_simp
                                       with_reducible rfl
                                      rotate_left
                                      ·
                                       simp only [Act.put, List.setIfInBounds_toArray, List.set_cons_zero, List.set_cons_succ, i64_w, i32_w]
                                       rfl
                                      refine pure_ (i := 5) (N := some 128) (v := ?_) (a' := ?_) #[true, true, true, false, true, true, false, false, false, false, false, false, false, false, false, false, false, false, false, false, false, false, false, false, false, false, false] rfl rfl (any_of HT_.out (by kernel_rfl)) (fun _ _ _ h => h) (Or.inl ⟨by rfl, ?_⟩) ?_ ?_
                                      rotate_left
                                      ·
                                       intro w'
                                       go_simp
                                       with_reducible rfl
                                      rotate_left
                                      ·
                                       simp only [Act.put, List.setIfInBounds_toArray, List.set_cons_zero, List.set_cons_succ, i64_w, i32_w]
                                       rfl
                                      refine pure_ (i := 6) (N := some 129) (v := ?_) (a' := ?_) #[true, true, true, false, true, true, true, false, false, false, false, false, false, false, false, false, false, false, false, false, false, false, false, false, false, false, false] rfl rfl (any_of HT_.out (by kernel_rfl)) (fun _ _ _ h => h) (Or.inl ⟨by rfl, ?_⟩) ?_ ?_
                                      rotate_left
                                      ·
                                       intro w'
                                       go_simp
                                       with_reducible rfl
                                      rotate_left
                                      ·
                                       simp only [Act.put, List.setIfInBounds_toArray, List.set_cons_zero, List.set_cons_succ, i64_w, i32_w]
                                       rfl
                                      refine pure_ (i := 9) (N := some 132) (v := ?_) (a' := ?_) #[true, true, true, false, true, true, true, false, false, true, false, false, false, false, false, false, false, false, false, false, false, false, false, false, false, false, false] rfl rfl (any_of HT_.out (by kernel_rfl)) (fun _ _ _ h => h) (Or.inl ⟨by rfl, ?_⟩) ?_ ?_
                                      rotate_left
                                      ·
                                       intro w'
                                       go_simp
                                       with_reducible rfl
                                      rotate_left
                                      ·
                                       simp only [Act.put, List.setIfInBounds_toArray, List.set_cons_zero, List.set_cons_succ, i64_w, i32_w]
                                       rfl
                                      refine pure_ (i := 10) (N := some 133) (v := ?_) (a' := ?_) #[true, true, true, false, true, true, true, false, false, true, true, false, false, false, false, false, false, false, false, false, false, false, false, false, false, false, false] rfl rfl (any_of HT_.out (by kernel_rfl)) (fun _ _ _ h => h) (Or.inl ⟨by rfl, ?_⟩) ?_ ?_
                                      rotate_left
                                      ·
                                       intro w'
                                       go_simp
                                       with_reducible rfl
                                      rotate_left
                                      ·
                                       simp only [Act.put, List.setIfInBounds_toArray, List.set_cons_zero, List.set_cons_succ, i64_w, i32_w]
                                       rfl
                                      refine pure_ (i := 11) (N := some 134) (v := ?_) (a' := ?_) #[true, true, true, false, true, true, true, false, false, true, true, true, false, false, false, false, false, false, false, false, false, false, false, false, false, false, false] rfl rfl (any_of HT_.out (by kernel_rfl)) (fun _ _ _ h => h) (Or.inl ⟨by rfl, ?_⟩) ?_ ?_
                                      rotate_left
                                      ·
                                       intro w'
                                       go_simp
                                       with_reducible rfl
                                      rotate_left
                                      ·
                                       simp only [Act.put, List.setIfInBounds_toArray, List.set_cons_zero, List.set_cons_succ, i64_w, i32_w]
                                       rfl
                                      refine pure_ (i := 13) (N := some 136) (v := ?_) (a' := ?_) #[true, true, true, false, true, true, true, false, false, true, true, true, false, true, false, false, false, false, false, false, false, false, false, false, false, false, false] rfl rfl (any_of HT_.out (by kernel_rfl)) (fun _ _ _ h => h) (Or.inl ⟨by rfl, ?_⟩) ?_ ?_
                                      rotate_left
                                      ·
                                       intro w'
                                       go_simp
                                       with_reducible rfl
                                      rotate_left
                                      ·
                                       simp only [Act.put, List.setIfInBounds_toArray, List.set_cons_zero, List.set_cons_succ, i64_w, i32_w]
                                       rfl
                                      refine pure_ (i := 16) (N := some 139) (v := ?_) (a' := ?_) #[true, true, true, false, true, true, true, false, false, true, true, true, false, true, false, false, true, false, false, false, false, false, false, false, false, false, false] rfl rfl (any_of HT_.out (by kernel_rfl)) (fun _ _ _ h => h) (Or.inl ⟨by rfl, ?_⟩) ?_ ?_
                                      rotate_left
                                      ·
                                       intro w'
                                       go_simp
                                       with_reducible rfl
                                      rotate_left
                                      ·
                                       simp only [Act.put, List.setIfInBounds_toArray, List.set_cons_zero, List.set_cons_succ, i64_w, i32_w]
                                       rfl
                                      refine pure_ (i := 17) (N := some 140) (v := ?_) (a' := ?_) #[true, true, true, false, true, true, true, false, false, true, true, true, false, true, false, false, true, true, false, false, false, false, false, false, false, false, false] rfl rfl (any_of HT_.out (by kernel_rfl)) (fun _ _ _ h => h) (Or.inl ⟨by rfl, ?_⟩) ?_ ?_
                                      rotate_left
                                      ·
                                       intro w'
                                       go_simp
                                       with_reducible rfl
                                      rotate_left
                                      ·
                                       simp only [Act.put, List.setIfInBounds_toArray, List.set_cons_zero, List.set_cons_succ, i64_w, i32_w]
                                       rfl
                                      refine pure_ (i := 18) (N := some 141) (v := ?_) (a' := ?_) #[true, true, true, false, true, true, true, false, false, true, true, true, false, true, false, false, true, true, true, false, false, false, false, false, false, false, false] rfl rfl (any_of HT_.out (by kernel_rfl)) (fun _ _ _ h => h) (Or.inl ⟨by rfl, ?_⟩) ?_ ?_
                                      rotate_left
                                      ·
                                       intro w'
                                       go_simp
                                       with_reducible rfl
                                      rotate_left
                                      ·
                                       simp only [Act.put, List.setIfInBounds_toArray, List.set_cons_zero, List.set_cons_succ, i64_w, i32_w]
                                       rfl
                                      refine pure_ (i := 20) (N := some 143) (v := ?_) (a' := ?_) #[true, true, true, false, true, true, true, false, false, true, true, true, false, true, false, false, true, true, true, false, true, false, false, false, false, false, false] rfl rfl (any_of HT_.out (by kernel_rfl)) (fun _ _ _ h => h) (Or.inl ⟨by rfl, ?_⟩) ?_ ?_
                                      rotate_left
                                      ·
                                       intro w'
                                       go_simp
                                       with_reducible rfl
                                      rotate_left
                                      ·
                                       simp only [Act.put, List.setIfInBounds_toArray, List.set_cons_zero, List.set_cons_succ, i64_w, i32_w]
                                       rfl
                                      refine pure_ (i := 21) (N := some 144) (v := ?_) (a' := ?_) #[true, true, true, false, true, true, true, false, false, true, true, true, false, true, false, false, true, true, true, false, true, true, false, false, false, false, false] rfl rfl (any_of HT_.out (by kernel_rfl)) (fun _ _ _ h => h) (Or.inl ⟨by rfl, ?_⟩) ?_ ?_
                                      rotate_left
                                      ·
                                       intro w'
                                       go_simp
                                       with_reducible rfl
                                      rotate_left
                                      ·
                                       simp only [Act.put, List.setIfInBounds_toArray, List.set_cons_zero, List.set_cons_succ, i64_w, i32_w]
                                       rfl
                                      refine pure_ (i := 22) (N := some 145) (v := ?_) (a' := ?_) #[true, true, true, false, true, true, true, false, false, true, true, true, false, true, false, false, true, true, true, false, true, true, true, false, false, false, false] rfl rfl (any_of HT_.out (by kernel_rfl)) (fun _ _ _ h => h) (Or.inl ⟨by rfl, ?_⟩) ?_ ?_
                                      rotate_left
                                      ·
                                       intro w'
                                       go_simp
                                       with_reducible rfl
                                      rotate_left
                                      ·
                                       simp only [Act.put, List.setIfInBounds_toArray, List.set_cons_zero, List.set_cons_succ, i64_w, i32_w]
                                       rfl
                                      refine take_ (i := 3) (N := some 126) (v := ?_) (a' := ?_) #[true, true, true, true, true, true, true, false, false, true, true, true, false, true, false, false, true, true, true, false, true, true, true, false, false, false, false] rfl rfl (take_ofW HT_.out HW_.out (by kernel_rfl)) (fun _ _ _ h => h) (Or.inl ⟨by rfl, ?_⟩) hHeld ?_ ?_
                                      rotate_left
                                      ·
                                       rintro w' ⟨s0, s1, s2, s3, s4, s5⟩
                                       go_simp
                                       with_reducible rfl
                                      rotate_left
                                      ·
                                       simp only [Act.put, List.setIfInBounds_toArray, List.set_cons_zero, List.set_cons_succ, i64_w, i32_w]
                                       rfl
                                      refine take_ (i := 7) (N := some 130) (v := ?_) (a' := ?_) #[true, true, true, true, true, true, true, true, false, true, true, true, false, true, false, false, true, true, true, false, true, true, true, false, false, false, false] rfl rfl (take_ofW HT_.out HW_.out (by kernel_rfl)) (fun _ _ _ h => h) (Or.inl ⟨by rfl, ?_⟩) hHeld ?_ ?_
                                      rotate_left
                                      ·
                                       rintro w' ⟨s0, s1, s2, s3, s4, s5⟩
                                       go_simp
                                       with_reducible rfl
                                      rotate_left
                                      ·
                                       simp only [Act.put, List.setIfInBounds_toArray, List.set_cons_zero, List.set_cons_succ, i64_w, i32_w]
                                       rfl
                                      refine pure_ (i := 8) (N := some 131) (v := ?_) (a' := ?_) #[true, true, true, true, true, true, true, true, true, true, true, true, false, true, false, false, true, true, true, false, true, true, true, false, false, false, false] rfl rfl (any_of HT_.out (by kernel_rfl)) (fun _ _ _ h => h) (Or.inl ⟨by rfl, ?_⟩) ?_ ?_
                                      rotate_left
                                      ·
                                       intro w'
                                       go_simp
                                       with_reducible rfl
                                      rotate_left
                                      ·
                                       simp only [Act.put, List.setIfInBounds_toArray, List.set_cons_zero, List.set_cons_succ, i64_w, i32_w]
                                       rfl
                                      refine take_ (i := 12) (N := some 135) (v := ?_) (a' := ?_) #[true, true, true, true, true, true, true, true, true, true, true, true, true, true, false, false, true, true, true, false, true, true, true, false, false, false, false] rfl rfl (take_ofW HT_.out HW_.out (by kernel_rfl)) (fun _ _ _ h => h) (Or.inl ⟨by rfl, ?_⟩) hHeld ?_ ?_
                                      rotate_left
                                      ·
                                       rintro w' ⟨s0, s1, s2, s3, s4, s5⟩
                                       go_simp
                                       with_reducible rfl
                                      rotate_left
                                      ·
                                       simp only [Act.put, List.setIfInBounds_toArray, List.set_cons_zero, List.set_cons_succ, i64_w, i32_w]
                                       rfl
                                      refine pure_ (i := 14) (N := some 137) (v := ?_) (a' := ?_) #[true, true, true, true, true, true, true, true, true, true, true, true, true, true, true, false, true, true, true, false, true, true, true, false, false, false, false] rfl rfl (any_of HT_.out (by kernel_rfl)) (fun _ _ _ h => h) (Or.inl ⟨by rfl, ?_⟩) ?_ ?_
                                      rotate_left
                                      ·
                                       intro w'
                                       go_simp
                                       with_reducible rfl
                                      rotate_left
                                      ·
                                       simp only [Act.put, List.setIfInBounds_toArray, List.set_cons_zero, List.set_cons_succ, i64_w, i32_w]
                                       rfl
                                      refine take_ (i := 15) (N := some 138) (v := ?_) (a' := ?_) #[true, true, true, true, true, true, true, true, true, true, true, true, true, true, true, true, true, true, true, false, true, true, true, false, false, false, false] rfl rfl (take_ofW HT_.out HW_.out (by kernel_rfl)) (fun _ _ _ h => h) (Or.inl ⟨by rfl, ?_⟩) hHeld ?_ ?_
                                      rotate_left
                                      ·
                                       rintro w' ⟨s0, s1, s2, s3, s4, s5⟩
                                       go_simp
                                       with_reducible rfl
                                      rotate_left
                                      ·
                                       simp only [Act.put, List.setIfInBounds_toArray, List.set_cons_zero, List.set_cons_succ, i64_w, i32_w]
                                       rfl
                                      refine take_ (i := 19) (N := some 142) (v := ?_) (a' := ?_) #[true, true, true, true, true, true, true, true, true, true, true, true, true, true, true, true, true, true, true, true, true, true, true, false, false, false, false] rfl rfl (take_ofW HT_.out HW_.out (by kernel_rfl)) (fun _ _ _ h => h) (Or.inl ⟨by rfl, ?_⟩) hHeld ?_ ?_
                                      rotate_left
                                      ·
                                       rintro w' ⟨s0, s1, s2, s3, s4, s5⟩
                                       go_simp
                                       with_reducible rfl
                                      rotate_left
                                      ·
                                       simp only [Act.put, List.setIfInBounds_toArray, List.set_cons_zero, List.set_cons_succ, i64_w, i32_w]
                                       rfl
                                      refine take_ (i := 23) (N := some 146) (v := ?_) (a' := ?_) #[true, true, true, true, true, true, true, true, true, true, true, true, true, true, true, true, true, true, true, true, true, true, true, true, false, false, false] rfl rfl (take_ofW HT_.out HW_.out (by kernel_rfl)) (fun _ _ _ h => h) (Or.inl ⟨by rfl, ?_⟩) hHeld ?_ ?_
                                      rotate_left
                                      ·
                                       rintro w' ⟨s0, s1, s2, s3, s4, s5⟩
                                       go_simp
                                       with_reducible rfl
                                      rotate_left
                                      ·
                                       simp only [Act.put, List.setIfInBounds_toArray, List.set_cons_zero, List.set_cons_succ, i64_w, i32_w]
                                       rfl
                                      refine pure_ (i := 24) (N := some 147) (v := ?_) (a' := ?_) #[true, true, true, true, true, true, true, true, true, true, true, true, true, true, true, true, true, true, true, true, true, true, true, true, true, false, false] rfl rfl (any_of HT_.out (by kernel_rfl)) (fun _ _ _ h => h) (Or.inl ⟨by rfl, ?_⟩) ?_ ?_
                                      rotate_left
                                      ·
                                       intro w'
                                       go_simp
                                       with_reducible rfl
                                      rotate_left
                                      ·
                                       simp only [Act.put, List.setIfInBounds_toArray, List.set_cons_zero, List.set_cons_succ, i64_w, i32_w]
                                       rfl
                                      refine pure_ (i := 25) (N := some 148) (v := ?_) (a' := ?_) #[true, true, true, true, true, true, true, true, true, true, true, true, true, true, true, true, true, true, true, true, true, true, true, true, true, true, false] rfl rfl (any_of HT_.out (by kernel_rfl)) (fun _ _ _ h => h) (Or.inl ⟨by rfl, ?_⟩) ?_ ?_
                                      rotate_left
                                      ·
                                       intro w'
                                       go_simp
                                       with_reducible rfl
                                      rotate_left
                                      ·
                                       simp only [Act.put, List.setIfInBounds_toArray, List.set_cons_zero, List.set_cons_succ, i64_w, i32_w]
                                       rfl
                                      refine pure_ (i := 26) (N := some 17) (v := ?_) (a' := ?_) #[true, true, true, true, true, true, true, true, true, true, true, true, true, true, true, true, true, true, true, true, true, true, true, true, true, true, true] rfl rfl (any_of HT_.out (by kernel_rfl)) (fun _ _ _ h => h) (Or.inl ⟨by rfl, ?_⟩) ?_ ?_
                                      rotate_left
                                      ·
                                       intro w'
                                       go_simp
                                       with_reducible rfl
                                      rotate_left
                                      ·
                                       simp only [Act.put, List.setIfInBounds_toArray, List.set_cons_zero, List.set_cons_succ, i64_w, i32_w]
                                       rfl
                                      refine done_ (done_of HT_.out (by kernel_rfl)) ?_
                                      try go_wp2
                                      have n0_ := Aside0.mk (Kd.R_drew HO_9.out)
                                      have n1_ := Aside0.mk (Kd.S_drew HO_11.out)
                                      have n2_ := Aside0.mk (Kd.R_drew HL640_0.out)
                                      have n3_ := Aside0.mk (Kd.C_drew HR640_0.out)
                                      have n4_ := Aside0.mk (below_drew1 HB.out)
                                      clear HO_9
                                      clear HO_11
                                      clear HL640_0
                                      clear HR640_0
                                      clear HB
                                      have HO_9 := n0_
                                      have HO_11 := n1_
                                      have HL640_0 := n2_
                                      have HR640_0 := n3_
                                      have HB := n4_
                                      clear n0_ n1_ n2_ n3_ n4_
                                      have p644 : 0 ≤ ((rd l2 x12_3) : Int) := of_decide_eq_true (by first | (with_reducible assumption) | assumption)
                                      have q644 : (rd l2 x12_3) < (x11_6.length : Int) := of_decide_eq_true (by first | (with_reducible assumption) | assumption)
                                      obtain ⟨ad644, A644_0, c644_0, e644, hx644_0, hl644_0, hi644_0⟩ := at_L1 (Kd.S_reads' HO_11.out).2.2 (rd l2 x12_3) p644 q644
                                      obtain rfl : ad640 = ad644 := (by injection e644)
                                      obtain ⟨ce644, hce644, hMe644, hcc644⟩ := Kd.S_get HO_11.out [] (rd l2 x12_3) p644 (by first | exact q644 | exact of_decide_eq_true (by first | (with_reducible assumption) | assumption) | (have e_ := (Kd.S_reads' HO_11.out).1; omega))
                                      obtain ⟨ve644_0, rfl, ge644_0⟩ := hMe644
                                      have hv644_0 := hcc644 0 _ rfl
                                      rw [Nat.add_zero, show ((Kd.slice 3 (Kd.int .i64))).sz = 1 from rfl, Nat.mul_one] at hv644_0
                                      replace hv644_0 := Option.some.inj (hv644_0.symm.trans hx644_0)
                                      rw [hv644_0] at ge644_0
                                      have HL644_0 := Aside0.mk (show Kd.R (Kd.int .i64) 3 _ _ _ _ (rd_L1 x11_6 (rd l2 x12_3)) from ge644_0)
                                      clear hv644_0 ge644_0
                                      have HX644_0 := Aside0.mk hx644_0
                                      clear hcc644 hce644
                                      have HR644_0 := Aside0.mk hi644_0
                                      have HC644_0 := Aside0.mk hl644_0
                                      clear hi644_0 hl644_0
                                      replace p644 := eq_true p644
                                      replace q644 := eq_true q644
                                      have p645 : 0 ≤ ((rd l2 x12_3) : Int) := of_decide_eq_true (by first | (with_reducible assumption) | assumption)
                                      have q645 : (rd l2 x12_3) < (x11_6.length : Int) := of_decide_eq_true (by first | (with_reducible assumption) | assumption)
                                      obtain ⟨ad645, A645_0, c645_0, e645, hx645_0, hl645_0, hi645_0⟩ := at_L1 (Kd.S_reads' HO_11.out).2.2 (rd l2 x12_3) p645 q645
                                      obtain rfl : ad640 = ad645 := (by injection e645)
                                      obtain ⟨ce645, hce645, hMe645, hcc645⟩ := Kd.S_get HO_11.out [] (rd l2 x12_3) p645 (by first | exact q645 | exact of_decide_eq_true (by first | (with_reducible assumption) | assumption) | (have e_ := (Kd.S_reads' HO_11.out).1; omega))
                                      obtain ⟨ve645_0, rfl, ge645_0⟩ := hMe645
                                      have hv645_0 := hcc645 0 _ rfl
                                      rw [Nat.add_zero, show ((Kd.slice 3 (Kd.int .i64))).sz = 1 from rfl, Nat.mul_one] at hv645_0
                                      replace hv645_0 := Option.some.inj (hv645_0.symm.trans hx645_0)
                                      rw [hv645_0] at ge645_0
                                      have HL645_0 := Aside0.mk (show Kd.R (Kd.int .i64) 3 _ _ _ _ (rd_L1 x11_6 (rd l2 x12_3)) from ge645_0)
                                      clear hv645_0 ge645_0
                                      have HX645_0 := Aside0.mk hx645_0
                                      clear hcc645 hce645
                                      have HR645_0 := Aside0.mk hi645_0
                                      have HC645_0 := Aside0.mk hl645_0
                                      clear hi645_0 hl645_0
                                      replace p645 := eq_true p645
                                      replace q645 := eq_true q645
                                      have ea_ := Option.some.inj (hx644_0.symm.trans hx645_0)
                                      injection ea_ with ea_ en_ ec_
                                      subst ea_
                                      subst ec_
                                      clear en_
                                      have p646 : 0 ≤ (x14_5 : Int) := of_decide_eq_true (by first | (with_reducible assumption) | assumption)
                                      have q646 : x14_5 < ((rd_L1 x11_6 (rd l2 x12_3)).length : Int) := of_decide_eq_true (by first | (with_reducible assumption) | assumption)
                                      obtain ⟨ad646, e646, hx646_0⟩ := Kd.at_int (by repeat (first | (with_reducible exact HR645_0.out) | (with_reducible refine Kd.C_alloc ?_ _) | (with_reducible refine Kd.C_drewN ?_ _) | (with_reducible refine Kd.C_drew ?_) | exact HR645_0.out)) x14_5 p646 q646
                                      cases e646
                                      replace p646 := eq_true p646
                                      replace q646 := eq_true q646
                                      have p54 : 0 ≤ (x14_5 : Int) := of_decide_eq_true (by first | (with_reducible assumption) | assumption)
                                      have q54 : (x14_5 : Int) < (((rd_L1 x11_6 (rd l2 x12_3)).length : Int) : Int) := of_decide_eq_true (by first | (with_reducible assumption) | assumption)
                                      obtain ⟨go54, co54, eo54, gb54, gl54, cl54, HG54⟩ := Kd.R_form HL644_0.out (by omega)
                                      (first | cases eo54 | (injection eo54 with ea_ en_ ec_; (first | subst ea_ | (injection ea_ with ea_; subst ea_)); subst ec_; clear en_))
                                      have GB54 := Aside0.mk gb54
                                      have GG54 := Aside0.mk HG54
                                      clear gb54 gl54 HG54
                                      (first | simp only [add_plain] at hx646_0 | skip)
                                      obtain ⟨hx54_0, hf54_0⟩ := Kd.R_celln 0 HL644_0.out (x14_5 : Int) p54 q54
                                      replace p54 := eq_true p54
                                      replace q54 := eq_true q54
                                      have hq61 : ((rd l2 x12_3) : Int) < (x11_6.length : Int) := (by have h_ : ((rd l2 x12_3) : Int) < ((x11_6.length : Int) : Int) := of_decide_eq_true (by first | (with_reducible assumption) | assumption); first | exact h_ | (have e_ := (Kd.S_reads' HO_11.out).1; omega) | simpa only [List.length_set, List.length_set] using h_)
                                      obtain ⟨oki61, ce61, hcl61, hM61, hcc61, hok61, hbk61⟩ := Kd.S_borrow HO_11.out [] ((rd l2 x12_3) : Int) (of_decide_eq_true (by first | (with_reducible assumption) | assumption)) hq61
                                      obtain ⟨ve61_0, rfl, ge61_0⟩ := hM61
                                      have hv61 := hcc61 0 _ rfl
                                      rw [Nat.add_zero, show ((Kd.slice 3 (Kd.int .i64))).sz = 1 from rfl, Nat.mul_one] at hv61
                                      replace hv61 := Option.some.inj (hv61.symm.trans HX644_0.out)
                                      subst hv61
                                      clear hcc61 hcl61
                                      replace ge61_0 := (show Kd.R (Kd.int .i64) 3 _ _ _ _ (rd_L1 x11_6 (rd l2 x12_3)) from ge61_0)
                                      have HP61 := Kd.R_putg ge61_0 (x14_5 : Int) (wrap64 ((rd (rd_L1 x11_6 (rd l2 x12_3)) x14_5) - (ji52)))
                                      rw [← Ny647.out] at HP61
                                      have HS61 := hbk61 HP61.2 (fun k_ e_ => by injection e_ with e_; subst e_; exact ge61_0.1 _ rfl) (x' := y647) (Kd.M_row HP61.1)
                                      rw [← Ny649.out] at HS61
                                      have HQ61 := Aside0.mk HS61
                                      clear HP61 HS61 hbk61 hok61
                                      refine start_ (n := 16) (S := fun w' => w'.cell? (ad640.add ((rd l2 x12_3)).toNat) = some (.slice (some ⟨go54, 0, none⟩) (rd_L1 x11_6 (rd l2 x12_3)).length c644_0) ∧ w'.cell? (ad640.add ((rd l2 x12_3)).toNat) = some (.slice (some ⟨go54, 0, none⟩) (rd_L1 x11_6 (rd l2 x12_3)).length c644_0) ∧ w'.cell? ⟨go54, (x14_5).toNat, none⟩ = some (.int .i64 (rd (rd_L1 x11_6 (rd l2 x12_3)) x14_5))) (ds := [15]) #[false, false, false, false, false, false, false, false, false, false, false, false, false, false, false, false] (by kernel_rfl) rfl rfl ⟨hx644_0, hx645_0, hx646_0⟩ (fun hHeld => ?_); refine with_tabW kinkeeplaw35_QuotaFinds.tab28 kinkeeplaw35_QuotaFinds.bits28 (fun HT_ HW_ => ?_)
                                      generalize w57.drew = w60 at HO_9 HO_11 HL640_0 HR640_0 HB GG54 HL644_0 HL645_0 HQ61 HR644_0 HR645_0 HX644_0 HX645_0 hf54_0 hx54_0 hx644_0 hx645_0 hx646_0 hHeld ⊢
                                      refine pure_ (i := 0) (N := some 151) (v := ?_) (a' := ?_) #[true, false, false, false, false, false, false, false, false, false, false, false, false, false, false, false] rfl rfl (any_of HT_.out (by kernel_rfl)) (fun _ _ _ h => h) (Or.inl ⟨by rfl, ?_⟩) ?_ ?_
                                      rotate_left
                                      ·
                                       intro w'
                                       go_simp
                                       with_reducible rfl
                                      rotate_left
                                      ·
                                       simp only [Act.put, List.setIfInBounds_toArray, List.set_cons_zero, List.set_cons_succ, i64_w, i32_w]
                                       rfl
                                      refine pure_ (i := 1) (N := some 152) (v := ?_) (a' := ?_) #[true, true, false, false, false, false, false, false, false, false, false, false, false, false, false, false] rfl rfl (any_of HT_.out (by kernel_rfl)) (fun _ _ _ h => h) (Or.inl ⟨by rfl, ?_⟩) ?_ ?_
                                      rotate_left
                                      ·
                                       intro w'
                                       go_simp
                                       with_reducible rfl
                                      rotate_left
                                      ·
                                       simp only [Act.put, List.setIfInBounds_toArray, List.set_cons_zero, List.set_cons_succ, i64_w, i32_w]
                                       rfl
                                      refine pure_ (i := 2) (N := some 153) (v := ?_) (a' := ?_) #[true, true, true, false, false, false, false, false, false, false, false, false, false, false, false, false] rfl rfl (any_of HT_.out (by kernel_rfl)) (fun _ _ _ h => h) (Or.inl ⟨by rfl, ?_⟩) ?_ ?_
                                      rotate_left
                                      ·
                                       intro w'
                                       go_simp
                                       with_reducible rfl
                                      rotate_left
                                      ·
                                       simp only [Act.put, List.setIfInBounds_toArray, List.set_cons_zero, List.set_cons_succ, i64_w, i32_w]
                                       rfl
                                      refine pure_ (i := 4) (N := some 155) (v := ?_) (a' := ?_) #[true, true, true, false, true, false, false, false, false, false, false, false, false, false, false, false] rfl rfl (any_of HT_.out (by kernel_rfl)) (fun _ _ _ h => h) (Or.inl ⟨by rfl, ?_⟩) ?_ ?_
                                      rotate_left
                                      ·
                                       intro w'
                                       go_simp
                                       with_reducible rfl
                                      rotate_left
                                      ·
                                       simp only [Act.put, List.setIfInBounds_toArray, List.set_cons_zero, List.set_cons_succ, i64_w, i32_w]
                                       rfl
                                      refine pure_ (i := 5) (N := some 156) (v := ?_) (a' := ?_) #[true, true, true, false, true, true, false, false, false, false, false, false, false, false, false, false] rfl rfl (any_of HT_.out (by kernel_rfl)) (fun _ _ _ h => h) (Or.inl ⟨by rfl, ?_⟩) ?_ ?_
                                      rotate_left
                                      ·
                                       intro w'
                                       go_simp
                                       with_reducible rfl
                                      rotate_left
                                      ·
                                       simp only [Act.put, List.setIfInBounds_toArray, List.set_cons_zero, List.set_cons_succ, i64_w, i32_w]
                                       rfl
                                      refine pure_ (i := 6) (N := some 157) (v := ?_) (a' := ?_) #[true, true, true, false, true, true, true, false, false, false, false, false, false, false, false, false] rfl rfl (any_of HT_.out (by kernel_rfl)) (fun _ _ _ h => h) (Or.inl ⟨by rfl, ?_⟩) ?_ ?_
                                      rotate_left
                                      ·
                                       intro w'
                                       go_simp
                                       with_reducible rfl
                                      rotate_left
                                      ·
                                       simp only [Act.put, List.setIfInBounds_toArray, List.set_cons_zero, List.set_cons_succ, i64_w, i32_w]
                                       rfl
                                      refine pure_ (i := 7) (N := some 158) (v := ?_) (a' := ?_) #[true, true, true, false, true, true, true, true, false, false, false, false, false, false, false, false] rfl rfl (any_of HT_.out (by kernel_rfl)) (fun _ _ _ h => h) (Or.inl ⟨by rfl, ?_⟩) ?_ ?_
                                      rotate_left
                                      ·
                                       intro w'
                                       go_simp
                                       with_reducible rfl
                                      rotate_left
                                      ·
                                       simp only [Act.put, List.setIfInBounds_toArray, List.set_cons_zero, List.set_cons_succ, i64_w, i32_w]
                                       rfl
                                      refine pure_ (i := 9) (N := some 160) (v := ?_) (a' := ?_) #[true, true, true, false, true, true, true, true, false, true, false, false, false, false, false, false] rfl rfl (any_of HT_.out (by kernel_rfl)) (fun _ _ _ h => h) (Or.inl ⟨by rfl, ?_⟩) ?_ ?_
                                      rotate_left
                                      ·
                                       intro w'
                                       go_simp
                                       with_reducible rfl
                                      rotate_left
                                      ·
                                       simp only [Act.put, List.setIfInBounds_toArray, List.set_cons_zero, List.set_cons_succ, i64_w, i32_w]
                                       rfl
                                      refine pure_ (i := 12) (N := some 163) (v := ?_) (a' := ?_) #[true, true, true, false, true, true, true, true, false, true, false, false, true, false, false, false] rfl rfl (any_of HT_.out (by kernel_rfl)) (fun _ _ _ h => h) (Or.inl ⟨by rfl, ?_⟩) ?_ ?_
                                      rotate_left
                                      ·
                                       intro w'
                                       go_simp
                                       with_reducible rfl
                                      rotate_left
                                      ·
                                       simp only [Act.put, List.setIfInBounds_toArray, List.set_cons_zero, List.set_cons_succ, i64_w, i32_w]
                                       rfl
                                      refine take_ (i := 3) (N := some 154) (v := ?_) (a' := ?_) #[true, true, true, true, true, true, true, true, false, true, false, false, true, false, false, false] rfl rfl (take_ofW HT_.out HW_.out (by kernel_rfl)) (fun _ _ _ h => h) (Or.inl ⟨by rfl, ?_⟩) hHeld ?_ ?_
                                      rotate_left
                                      ·
                                       rintro w' ⟨s0, s1, s2⟩
                                       go_simp
                                       with_reducible rfl
                                      rotate_left
                                      ·
                                       simp only [Act.put, List.setIfInBounds_toArray, List.set_cons_zero, List.set_cons_succ, i64_w, i32_w]
                                       rfl
                                      refine take_ (i := 8) (N := some 159) (v := ?_) (a' := ?_) #[true, true, true, true, true, true, true, true, true, true, false, false, true, false, false, false] rfl rfl (take_ofW HT_.out HW_.out (by kernel_rfl)) (fun _ _ _ h => h) (Or.inl ⟨by rfl, ?_⟩) hHeld ?_ ?_
                                      rotate_left
                                      ·
                                       rintro w' ⟨s0, s1, s2⟩
                                       go_simp
                                       with_reducible rfl
                                      rotate_left
                                      ·
                                       simp only [Act.put, List.setIfInBounds_toArray, List.set_cons_zero, List.set_cons_succ, i64_w, i32_w]
                                       rfl
                                      refine pure_ (i := 10) (N := some 161) (v := ?_) (a' := ?_) #[true, true, true, true, true, true, true, true, true, true, true, false, true, false, false, false] rfl rfl (any_of HT_.out (by kernel_rfl)) (fun _ _ _ h => h) (Or.inl ⟨by rfl, ?_⟩) ?_ ?_
                                      rotate_left
                                      ·
                                       intro w'
                                       go_simp
                                       with_reducible rfl
                                      rotate_left
                                      ·
                                       simp only [Act.put, List.setIfInBounds_toArray, List.set_cons_zero, List.set_cons_succ, i64_w, i32_w]
                                       rfl
                                      refine take_ (i := 11) (N := some 162) (v := ?_) (a' := ?_) #[true, true, true, true, true, true, true, true, true, true, true, true, true, false, false, false] rfl rfl (take_ofW HT_.out HW_.out (by kernel_rfl)) (fun _ _ _ h => h) (Or.inl ⟨by rfl, ?_⟩) hHeld ?_ ?_
                                      rotate_left
                                      ·
                                       rintro w' ⟨s0, s1, s2⟩
                                       go_simp
                                       with_reducible rfl
                                      rotate_left
                                      ·
                                       simp only [Act.put, List.setIfInBounds_toArray, List.set_cons_zero, List.set_cons_succ, i64_w, i32_w]
                                       rfl
                                      refine pure_ (i := 13) (N := some 164) (v := ?_) (a' := ?_) #[true, true, true, true, true, true, true, true, true, true, true, true, true, true, false, false] rfl rfl (any_of HT_.out (by kernel_rfl)) (fun _ _ _ h => h) (Or.inl ⟨by rfl, ?_⟩) ?_ ?_
                                      rotate_left
                                      ·
                                       intro w'
                                       go_simp
                                       with_reducible rfl
                                      rotate_left
                                      ·
                                       simp only [Act.put, List.setIfInBounds_toArray, List.set_cons_zero, List.set_cons_succ, i64_w, i32_w]
                                       rfl
                                      refine pure_ (i := 14) (N := some 165) (v := ?_) (a' := ?_) #[true, true, true, true, true, true, true, true, true, true, true, true, true, true, true, false] rfl rfl (any_of HT_.out (by kernel_rfl)) (fun _ _ _ h => h) (Or.inl ⟨by rfl, ?_⟩) ?_ ?_
                                      rotate_left
                                      ·
                                       intro w'
                                       go_simp
                                       with_reducible rfl
                                      rotate_left
                                      ·
                                       simp only [Act.put, List.setIfInBounds_toArray, List.set_cons_zero, List.set_cons_succ, i64_w, i32_w]
                                       rfl
                                      refine last_ (i := 15) (N := none) #[true, true, true, true, true, true, true, true, true, true, true, true, true, true, true, true] rfl rfl (one_of HT_.out (by kernel_rfl)) (by decide) (fun K hK => ?_)
                                      refine skip_ (w1 := ?_) (by rfl) rfl ?_ ?_
                                      rotate_left
                                      ·
                                       go_simp
                                       rfl
                                      refine hK.out _ _ ?_
                                      clear hK K
                                      refine done_ (done_of HT_.out (by kernel_rfl)) ?_
                                      have n0_ : Aside0 (Kd.R (Kd.int .i64) 3 (w60.setCell ⟨go54, (x14_5 : Int).toNat, none⟩ (.int .i64 (wrap64 ((rd (rd_L1 x11_6 (rd l2 x12_3)) x14_5) - (ji52))))) w.heap.size (fun _ => True) (.slice (some ad638) x9_6.length co58) x9_6) := ⟨by (with_reducible repeat (first | apply Kd.R_alloc | apply Kd.R_drewN | apply Kd.R_drew)); exact Kd.R_mono (Kd.R_far (p := ⟨go54, (x14_5 : Int).toNat, none⟩) (Kd.R_far1 HO_9.out rfl ((HL644_0.out.1 _ rfl).1)) (fun _ hk => hk.2) (.int .i64 (wrap64 ((rd (rd_L1 x11_6 (rd l2 x12_3)) x14_5) - (ji52))))) (fun _ hk => trivial)⟩
                                      have n1_ : Aside0 (Kd.S (Kd.slice 3 (Kd.int .i64)) 31 (w60.setCell ⟨go54, (x14_5 : Int).toNat, none⟩ (.int .i64 (wrap64 ((rd (rd_L1 x11_6 (rd l2 x12_3)) x14_5) - (ji52))))) w.heap.size (fun k_ => some k_ ≠ (.slice (some ad638) x9_6.length co58 : Value).ownBlock) (.slice (some ad640) x11_6.length co59) y649) := ⟨by (with_reducible repeat (first | apply Kd.S_alloc | apply Kd.S_drewN | apply Kd.S_drew)); exact HQ61.out⟩
                                      have n2_ : Aside0 (Below w.heap.size w (w60.setCell ⟨go54, (x14_5 : Int).toNat, none⟩ (.int .i64 (wrap64 ((rd (rd_L1 x11_6 (rd l2 x12_3)) x14_5) - (ji52)))))) := ⟨by repeat (first | (with_reducible first | exact HB.out | apply below_alloc | apply pw_below_drewN | apply below_drew1 | refine below_set ?_ GB54.out) | exact HB.out)⟩
                                      (try clear HO_9)
                                      (try clear HO_11)
                                      (try clear HB)
                                      generalize (w60.setCell ⟨go54, (x14_5 : Int).toNat, none⟩ (.int .i64 (wrap64 ((rd (rd_L1 x11_6 (rd l2 x12_3)) x14_5) - (ji52))))) = w63 at n0_ n1_ n2_ ⊢
                                      have HO_9 := n0_
                                      have HO_11 := n1_
                                      have HB := n2_
                                      clear n0_ n1_ n2_
                                      have p650 : 0 ≤ ((rd l2 x12_3) : Int) := of_decide_eq_true (by first | (with_reducible assumption) | assumption)
                                      have q650 : (rd l2 x12_3) < (x9_6.length : Int) := of_decide_eq_true (by first | (with_reducible assumption) | assumption)
                                      obtain ⟨ad650, e650, hx650_0⟩ := Kd.at_int (Kd.R_reads' HO_9.out).2.2 (rd l2 x12_3) p650 q650
                                      obtain rfl : ad638 = ad650 := (by injection e650)
                                      replace p650 := eq_true p650
                                      replace q650 := eq_true q650
                                      have p55 : 0 ≤ ((rd l2 x12_3) : Int) := of_decide_eq_true (by first | (with_reducible assumption) | assumption)
                                      have q55 : ((rd l2 x12_3) : Int) < ((x9_6.length : Int) : Int) := of_decide_eq_true (by first | (with_reducible assumption) | assumption)
                                      obtain ⟨go55, co55, eo55, gb55, gl55, cl55, HG55⟩ := Kd.R_form HO_9.out (by omega)
                                      (first | cases eo55 | (injection eo55 with ea_ en_ ec_; (first | subst ea_ | (injection ea_ with ea_; subst ea_)); subst ec_; clear en_))
                                      have GB55 := Aside0.mk gb55
                                      have GG55 := Aside0.mk HG55
                                      clear gb55 gl55 HG55
                                      (first | simp only [add_plain] at hx638_0 | skip)
                                      (first | simp only [add_plain] at hx643_0 | skip)
                                      (first | simp only [add_plain] at hx650_0 | skip)
                                      obtain ⟨hx55_0, hf55_0⟩ := Kd.R_celln 0 HO_9.out ((rd l2 x12_3) : Int) p55 q55
                                      replace p55 := eq_true p55
                                      replace q55 := eq_true q55
                                      obtain ⟨hy64_, hz64_⟩ := Kd.R_celln 0 HO_9.out ((rd l2 x12_3) : Int) (of_decide_eq_true (by first | (with_reducible assumption) | assumption)) (of_decide_eq_true (by first | (with_reducible assumption) | assumption))
                                      have HP64 := Kd.R_putg HO_9.out ((rd l2 x12_3) : Int) (wrap64 ((rd x9_6 (rd l2 x12_3)) - (ji52)))
                                      try go_wp2_with (first | ((with_reducible refine gate_store (t := 3) (p := 174) rfl ?_); refine store_event (t := 3) (p := 174) (v := ?vo_w65) (w1 := (w63.setCell ⟨go55, ((rd l2 x12_3) : Int).toNat, none⟩ (.int .i64 (wrap64 ((rd x9_6 (rd l2 x12_3)) - (ji52)))))) ?hg ?ho ?hn ?hr ?_; (case ho => rfl); (case hg => rfl); (case hn => rfl); (case hr => first | (go_simp; done) | (go_simp; rfl)); intro w65 hw; have hg : w63.grownBy w65 (some go55) := (by rw [hw]; exact HP64.2); have hp_ : Kd.R (Kd.int .i64) 3 w65 w.heap.size (fun _ => True) (.slice (some ⟨go55, 0, none⟩) x9_6.length co58) y651 := (by rw [hw, Ny651.out]; exact HP64.1); clear HP64; have n0_ := Aside0.mk (hp_); have n1_ := Aside0.mk (Kd.S_after (v := (.slice (some ⟨go55, 0, none⟩) x9_6.length co58)) (v1 := (.slice (some ⟨go55, 0, none⟩) x9_6.length co58)) (ok := (fun _ => True)) (by (with_reducible repeat (first | apply Kd.S_alloc | apply Kd.S_drewN | apply Kd.S_drew)); exact Kd.S_mono HO_11.out (fun _ hk => ⟨trivial, hk⟩)) hg (.inl rfl)); have n2_ := Aside0.mk ((by rw [hw]; exact below_set (HB.out) GB55.out : Below w.heap.size w w65)); clear HO_9; clear HO_11; clear HB; have HO_9 := n0_; have HO_11 := n1_; have HB := n2_; clear n0_ n1_ n2_; clear hg hw hp_; have p652 : 0 ≤ ((rd l2 x15_6) : Int) := of_decide_eq_true (by first | (with_reducible assumption) | assumption); have q652 : (rd l2 x15_6) < (y651.length : Int) := (by have h_ : ((rd l2 x15_6) : Int) < ((x9_6.length : Int) : Int) := of_decide_eq_true (by first | (with_reducible assumption) | assumption); first | (have e_ := (Kd.R_reads' HO_9.out).1; omega) | simpa only [Ny651.out, List.length_set] using h_); have ql652 : (((rd l2 x15_6) : Int) < ((x9_6.length : Int) : Int)) = True := eq_true (of_decide_eq_true (by first | (with_reducible assumption) | assumption)); obtain ⟨ad652, e652, hx652_0⟩ := Kd.at_int (Kd.R_reads' HO_9.out).2.2 (rd l2 x15_6) p652 q652; obtain rfl : (⟨go55, 0, none⟩ : Addr) = ad652 := (by injection e652); (first | simp only [add_plain] at hx652_0 | simp only [add_at] at hx652_0 | simp only [Addr.add, Nat.zero_add] at hx652_0 | skip); replace p652 := eq_true p652; replace q652 := eq_true q652; have p56 : 0 ≤ ((rd l2 x15_6) : Int) := of_decide_eq_true (by first | (with_reducible assumption) | assumption); have q56 : ((rd l2 x15_6) : Int) < ((x9_6.length : Int) : Int) := of_decide_eq_true (by first | (with_reducible assumption) | assumption); obtain ⟨hx56_0, hf56_0⟩ := Kd.R_celln 0 HO_9.out ((rd l2 x15_6) : Int) p56 q56; replace p56 := eq_true p56; replace q56 := eq_true q56; obtain ⟨hy66_, hz66_⟩ := Kd.R_celln 0 HO_9.out ((rd l2 x15_6) : Int) (of_decide_eq_true (by first | (with_reducible assumption) | assumption)) (of_decide_eq_true (by first | (with_reducible assumption) | assumption)); have HP66 := Kd.R_putg HO_9.out ((rd l2 x15_6) : Int) (wrap64 ((rd y651 (rd l2 x15_6)) + (ji52)))) | ((with_reducible refine gate_store (t := 3) (p := 183) rfl ?_); refine store_event (t := 3) (p := 183) (v := ?vo_w67) (w1 := (w65.setCell ⟨go55, ((rd l2 x15_6) : Int).toNat, none⟩ (.int .i64 (wrap64 ((rd y651 (rd l2 x15_6)) + (ji52)))))) ?hg ?ho ?hn ?hr ?_; (case ho => rfl); (case hg => rfl); (case hn => rfl); (case hr => first | (go_simp; done) | (go_simp; rfl)); intro w67 hw; have hg : w65.grownBy w67 (some go55) := (by rw [hw]; exact HP66.2); have hp_ : Kd.R (Kd.int .i64) 3 w67 w.heap.size (fun _ => True) (.slice (some ⟨go55, 0, none⟩) x9_6.length co58) y653 := (by rw [hw, Ny653.out]; exact HP66.1); clear HP66; have n0_ := Aside0.mk (hp_); have n1_ := Aside0.mk (Kd.S_after (v := (.slice (some ⟨go55, 0, none⟩) x9_6.length co58)) (v1 := (.slice (some ⟨go55, 0, none⟩) x9_6.length co58)) (ok := (fun _ => True)) (by (with_reducible repeat (first | apply Kd.S_alloc | apply Kd.S_drewN | apply Kd.S_drew)); exact HO_11.out) hg (.inl rfl)); have n2_ := Aside0.mk ((by rw [hw]; exact below_set (HB.out) GB55.out : Below w.heap.size w w67)); clear HO_9; clear HO_11; clear HB; have HO_9 := n0_; have HO_11 := n1_; have HB := n2_; clear n0_ n1_ n2_; clear hg hw hp_))
                                      go_roundg kj35
                                      case measure => have := HJ5.out; have := HJ18.out; have := HK3.out; have := HJ28.out; have := HK5.out; have := HK6.out; have := HJ35.out; omega
                                      case rel => exact ⟨(y653), (y649), (wrap64 (x15_6 - 1)), (by first | rfl | (simp; done) | (simp [*]; done)), H', ⟨by have := HJ5.out; have := HJ18.out; have := HK3.out; have := HJ28.out; have := HK5.out; have := HK6.out; have := HJ35.out; omega⟩, ⟨by (with_reducible repeat (first | apply Kd.R_alloc | apply Kd.R_drewN | apply Kd.R_drew)); exact HO_9.out⟩, ⟨by (with_reducible repeat (first | apply Kd.S_alloc | apply Kd.S_drewN | apply Kd.S_drew)); exact Kd.S_mono HO_11.out (fun _ hk => hk.2)⟩, ⟨by repeat (first | (with_reducible first | exact HB.out | apply below_alloc | apply pw_below_drewN | apply below_drew1) | exact HB.out)⟩⟩
                                    ·
                                     as_aux_lemma =>
                                      rw [if_neg c53] at H
                                      have c53b0 : decide (0 < (ji52)) = false := decide_eq_false c53
                                      clear c53
                                      have H' := Aside0.mk H
                                      clear H
                                      try go_wp2
                                      have n0_ := Aside0.mk (Kd.R_drew HO_9.out)
                                      have n1_ := Aside0.mk (Kd.S_drew HO_11.out)
                                      have n2_ := Aside0.mk (below_drew1 HB.out)
                                      clear HO_9
                                      clear HO_11
                                      clear HB
                                      have HO_9 := n0_
                                      have HO_11 := n1_
                                      have HB := n2_
                                      clear n0_ n1_ n2_
                                      obtain ⟨Ao69, co69, eo69⟩ := Kd.R_slice HO_9.out
                                      (first | subst eo69 | (injection eo69 with f1_ f2_ f3_; have f4_ := f1_.symm; have f5_ := f3_.symm; clear f1_ f2_ f3_; subst f4_; subst f5_))
                                      have p638 : 0 ≤ ((rd l2 x12_3) : Int) := of_decide_eq_true (by first | (with_reducible assumption) | assumption)
                                      have q638 : (rd l2 x12_3) < (x9_6.length : Int) := of_decide_eq_true (by first | (with_reducible assumption) | assumption)
                                      obtain ⟨ad638, e638, hx638_0⟩ := Kd.at_int (Kd.R_reads' HO_9.out).2.2 (rd l2 x12_3) p638 q638
                                      cases e638
                                      replace p638 := eq_true p638
                                      replace q638 := eq_true q638
                                      have p639 : 0 ≤ ((rd l2 x12_3) : Int) := of_decide_eq_true (by first | (with_reducible assumption) | assumption)
                                      have q639 : (rd l2 x12_3) < (l1.length : Int) := of_decide_eq_true (by first | (with_reducible assumption) | assumption)
                                      obtain ⟨ad639, e639, hx639_0⟩ := Kd.at_int HR1.out (rd l2 x12_3) p639 q639
                                      have hw639_0 := hx639_0
                                      cases e639
                                      replace hx639_0 := (HB.out.cell (World.block_lt_of_cell? w _ hx639_0)).trans hx639_0
                                      replace p639 := eq_true p639
                                      replace q639 := eq_true q639
                                      obtain ⟨Ao70, co70, eo70⟩ := Kd.S_slice HO_11.out
                                      (first | subst eo70 | (injection eo70 with f1_ f2_ f3_; have f4_ := f1_.symm; have f5_ := f3_.symm; clear f1_ f2_ f3_; subst f4_; subst f5_))
                                      have p640 : 0 ≤ ((rd l2 x12_3) : Int) := of_decide_eq_true (by first | (with_reducible assumption) | assumption)
                                      have q640 : (rd l2 x12_3) < (x11_6.length : Int) := of_decide_eq_true (by first | (with_reducible assumption) | assumption)
                                      obtain ⟨ad640, A640_0, c640_0, e640, hx640_0, hl640_0, hi640_0⟩ := at_L1 (Kd.S_reads' HO_11.out).2.2 (rd l2 x12_3) p640 q640
                                      cases e640
                                      obtain ⟨ce640, hce640, hMe640, hcc640⟩ := Kd.S_get HO_11.out [] (rd l2 x12_3) p640 (by first | exact q640 | exact of_decide_eq_true (by first | (with_reducible assumption) | assumption) | (have e_ := (Kd.S_reads' HO_11.out).1; omega))
                                      obtain ⟨ve640_0, rfl, ge640_0⟩ := hMe640
                                      have hv640_0 := hcc640 0 _ rfl
                                      rw [Nat.add_zero, show ((Kd.slice 3 (Kd.int .i64))).sz = 1 from rfl, Nat.mul_one] at hv640_0
                                      replace hv640_0 := Option.some.inj (hv640_0.symm.trans hx640_0)
                                      rw [hv640_0] at ge640_0
                                      have HL640_0 := Aside0.mk (show Kd.R (Kd.int .i64) 3 _ _ _ _ (rd_L1 x11_6 (rd l2 x12_3)) from ge640_0)
                                      clear hv640_0 ge640_0
                                      have HX640_0 := Aside0.mk hx640_0
                                      clear hcc640 hce640
                                      have HR640_0 := Aside0.mk hi640_0
                                      have HC640_0 := Aside0.mk hl640_0
                                      clear hi640_0 hl640_0
                                      replace p640 := eq_true p640
                                      replace q640 := eq_true q640
                                      have p641 : 0 ≤ (x14_5 : Int) := of_decide_eq_true (by first | (with_reducible assumption) | assumption)
                                      have q641 : x14_5 < ((rd_L1 x11_6 (rd l2 x12_3)).length : Int) := of_decide_eq_true (by first | (with_reducible assumption) | assumption)
                                      obtain ⟨ad641, e641, hx641_0⟩ := Kd.at_int (by repeat (first | (with_reducible exact HR640_0.out) | (with_reducible refine Kd.C_alloc ?_ _) | (with_reducible refine Kd.C_drewN ?_ _) | (with_reducible refine Kd.C_drew ?_) | exact HR640_0.out)) x14_5 p641 q641
                                      cases e641
                                      replace p641 := eq_true p641
                                      replace q641 := eq_true q641
                                      have p642 : 0 ≤ ((rd l2 x15_6) : Int) := of_decide_eq_true (by first | (with_reducible assumption) | assumption)
                                      have q642 : (rd l2 x15_6) < (l1.length : Int) := of_decide_eq_true (by first | (with_reducible assumption) | assumption)
                                      obtain ⟨ad642, e642, hx642_0⟩ := Kd.at_int HR1.out (rd l2 x15_6) p642 q642
                                      have hw642_0 := hx642_0
                                      obtain rfl : ad639 = ad642 := (by injection e642)
                                      replace hx642_0 := (HB.out.cell (World.block_lt_of_cell? w _ hx642_0)).trans hx642_0
                                      replace p642 := eq_true p642
                                      replace q642 := eq_true q642
                                      have p643 : 0 ≤ ((rd l2 x15_6) : Int) := of_decide_eq_true (by first | (with_reducible assumption) | assumption)
                                      have q643 : (rd l2 x15_6) < (x9_6.length : Int) := of_decide_eq_true (by first | (with_reducible assumption) | assumption)
                                      obtain ⟨ad643, e643, hx643_0⟩ := Kd.at_int (Kd.R_reads' HO_9.out).2.2 (rd l2 x15_6) p643 q643
                                      obtain rfl : ad638 = ad643 := (by injection e643)
                                      replace p643 := eq_true p643
                                      replace q643 := eq_true q643
                                      refine start_ (n := 27) (S := fun w' => w'.cell? (ad638.add ((rd l2 x12_3)).toNat) = some (.int .i64 (rd x9_6 (rd l2 x12_3))) ∧ w'.cell? (ad639.add ((rd l2 x12_3)).toNat) = some (.int .i64 (rd l1 (rd l2 x12_3))) ∧ w'.cell? (ad640.add ((rd l2 x12_3)).toNat) = some (.slice (some ad641) (rd_L1 x11_6 (rd l2 x12_3)).length c640_0) ∧ w'.cell? (ad641.add (x14_5).toNat) = some (.int .i64 (rd (rd_L1 x11_6 (rd l2 x12_3)) x14_5)) ∧ w'.cell? (ad639.add ((rd l2 x15_6)).toNat) = some (.int .i64 (rd l1 (rd l2 x15_6))) ∧ w'.cell? (ad638.add ((rd l2 x15_6)).toNat) = some (.int .i64 (rd x9_6 (rd l2 x15_6)))) (ds := []) #[false, false, false, false, false, false, false, false, false, false, false, false, false, false, false, false, false, false, false, false, false, false, false, false, false, false, false] (by kernel_rfl) rfl rfl ⟨hx638_0, ((HB.out.cell (World.block_lt_of_cell? w _ hw639_0)).trans hw639_0), hx640_0, hx641_0, ((HB.out.cell (World.block_lt_of_cell? w _ hw642_0)).trans hw642_0), hx643_0⟩ (fun hHeld => ?_); refine with_tabW kinkeeplaw35_QuotaFinds.tab26 kinkeeplaw35_QuotaFinds.bits26 (fun HT_ HW_ => ?_)
                                      generalize wc.drew = w68 at HO_9 HO_11 HB HL640_0 HR640_0 HX640_0 hx638_0 hx639_0 hx640_0 hx641_0 hx642_0 hx643_0 hHeld ⊢
                                      refine pure_ (i := 0) (N := some 123) (v := ?_) (a' := ?_) #[true, false, false, false, false, false, false, false, false, false, false, false, false, false, false, false, false, false, false, false, false, false, false, false, false, false, false] rfl rfl (any_of HT_.out (by kernel_rfl)) (fun _ _ _ h => h) (Or.inl ⟨by rfl, ?_⟩) ?_ ?_
                                      rotate_left
                                      ·
                                       intro w'
                                       go_simp
                                       with_reducible rfl
                                      rotate_left
                                      ·
                                       simp only [Act.put, List.setIfInBounds_toArray, List.set_cons_zero, List.set_cons_succ, i64_w, i32_w]
                                       rfl
                                      refine pure_ (i := 1) (N := some 124) (v := ?_) (a' := ?_) #[true, true, false, false, false, false, false, false, false, false, false, false, false, false, false, false, false, false, false, false, false, false, false, false, false, false, false] rfl rfl (any_of HT_.out (by kernel_rfl)) (fun _ _ _ h => h) (Or.inl ⟨by rfl, ?_⟩) ?_ ?_
                                      rotate_left
                                      ·
                                       intro w'
                                       go_simp
                                       with_reducible rfl
                                      rotate_left
                                      ·
                                       simp only [Act.put, List.setIfInBounds_toArray, List.set_cons_zero, List.set_cons_succ, i64_w, i32_w]
                                       rfl
                                      refine pure_ (i := 2) (N := some 125) (v := ?_) (a' := ?_) #[true, true, true, false, false, false, false, false, false, false, false, false, false, false, false, false, false, false, false, false, false, false, false, false, false, false, false] rfl rfl (any_of HT_.out (by kernel_rfl)) (fun _ _ _ h => h) (Or.inl ⟨by rfl, ?_⟩) ?_ ?_
                                      rotate_left
                                      ·
                                       intro w'
                                       go_simp
                                       with_reducible rfl
                                      rotate_left
                                      ·
                                       simp only [Act.put, List.setIfInBounds_toArray, List.set_cons_zero, List.set_cons_succ, i64_w, i32_w]
                                       rfl
                                      refine pure_ (i := 4) (N := some 127) (v := ?_) (a' := ?_) #[true, true, true, false, true, false, false, false, false, false, false, false, false, false, false, false, false, false, false, false, false, false, false, false, false, false, false] rfl rfl (any_of HT_.out (by kernel_rfl)) (fun _ _ _ h => h) (Or.inl ⟨by rfl, ?_⟩) ?_ ?_
                                      rotate_left
                                      ·
                                       intro w'
                                       go_simp
                                       with_reducible rfl
                                      rotate_left
                                      ·
                                       simp only [Act.put, List.setIfInBounds_toArray, List.set_cons_zero, List.set_cons_succ, i64_w, i32_w]
                                       rfl
                                      refine pure_ (i := 5) (N := some 128) (v := ?_) (a' := ?_) #[true, true, true, false, true, true, false, false, false, false, false, false, false, false, false, false, false, false, false, false, false, false, false, false, false, false, false] rfl rfl (any_of HT_.out (by kernel_rfl)) (fun _ _ _ h => h) (Or.inl ⟨by rfl, ?_⟩) ?_ ?_
                                      rotate_left
                                      ·
                                       intro w'
                                       go_simp
                                       with_reducible rfl
                                      rotate_left
                                      ·
                                       simp only [Act.put, List.setIfInBounds_toArray, List.set_cons_zero, List.set_cons_succ, i64_w, i32_w]
                                       rfl
                                      refine pure_ (i := 6) (N := some 129) (v := ?_) (a' := ?_) #[true, true, true, false, true, true, true, false, false, false, false, false, false, false, false, false, false, false, false, false, false, false, false, false, false, false, false] rfl rfl (any_of HT_.out (by kernel_rfl)) (fun _ _ _ h => h) (Or.inl ⟨by rfl, ?_⟩) ?_ ?_
                                      rotate_left
                                      ·
                                       intro w'
                                       go_simp
                                       with_reducible rfl
                                      rotate_left
                                      ·
                                       simp only [Act.put, List.setIfInBounds_toArray, List.set_cons_zero, List.set_cons_succ, i64_w, i32_w]
                                       rfl
                                      refine pure_ (i := 9) (N := some 132) (v := ?_) (a' := ?_) #[true, true, true, false, true, true, true, false, false, true, false, false, false, false, false, false, false, false, false, false, false, false, false, false, false, false, false] rfl rfl (any_of HT_.out (by kernel_rfl)) (fun _ _ _ h => h) (Or.inl ⟨by rfl, ?_⟩) ?_ ?_
                                      rotate_left
                                      ·
                                       intro w'
                                       go_simp
                                       with_reducible rfl
                                      rotate_left
                                      ·
                                       simp only [Act.put, List.setIfInBounds_toArray, List.set_cons_zero, List.set_cons_succ, i64_w, i32_w]
                                       rfl
                                      refine pure_ (i := 10) (N := some 133) (v := ?_) (a' := ?_) #[true, true, true, false, true, true, true, false, false, true, true, false, false, false, false, false, false, false, false, false, false, false, false, false, false, false, false] rfl rfl (any_of HT_.out (by kernel_rfl)) (fun _ _ _ h => h) (Or.inl ⟨by rfl, ?_⟩) ?_ ?_
                                      rotate_left
                                      ·
                                       intro w'
                                       go_simp
                                       with_reducible rfl
                                      rotate_left
                                      ·
                                       simp only [Act.put, List.setIfInBounds_toArray, List.set_cons_zero, List.set_cons_succ, i64_w, i32_w]
                                       rfl
                                      refine pure_ (i := 11) (N := some 134) (v := ?_) (a' := ?_) #[true, true, true, false, true, true, true, false, false, true, true, true, false, false, false, false, false, false, false, false, false, false, false, false, false, false, false] rfl rfl (any_of HT_.out (by kernel_rfl)) (fun _ _ _ h => h) (Or.inl ⟨by rfl, ?_⟩) ?_ ?_
                                      rotate_left
                                      ·
                                       intro w'
                                       go_simp
                                       with_reducible rfl
                                      rotate_left
                                      ·
                                       simp only [Act.put, List.setIfInBounds_toArray, List.set_cons_zero, List.set_cons_succ, i64_w, i32_w]
                                       rfl
                                      refine pure_ (i := 13) (N := some 136) (v := ?_) (a' := ?_) #[true, true, true, false, true, true, true, false, false, true, true, true, false, true, false, false, false, false, false, false, false, false, false, false, false, false, false] rfl rfl (any_of HT_.out (by kernel_rfl)) (fun _ _ _ h => h) (Or.inl ⟨by rfl, ?_⟩) ?_ ?_
                                      rotate_left
                                      ·
                                       intro w'
                                       go_simp
                                       with_reducible rfl
                                      rotate_left
                                      ·
                                       simp only [Act.put, List.setIfInBounds_toArray, List.set_cons_zero, List.set_cons_succ, i64_w, i32_w]
                                       rfl
                                      refine pure_ (i := 16) (N := some 139) (v := ?_) (a' := ?_) #[true, true, true, false, true, true, true, false, false, true, true, true, false, true, false, false, true, false, false, false, false, false, false, false, false, false, false] rfl rfl (any_of HT_.out (by kernel_rfl)) (fun _ _ _ h => h) (Or.inl ⟨by rfl, ?_⟩) ?_ ?_
                                      rotate_left
                                      ·
                                       intro w'
                                       go_simp
                                       with_reducible rfl
                                      rotate_left
                                      ·
                                       simp only [Act.put, List.setIfInBounds_toArray, List.set_cons_zero, List.set_cons_succ, i64_w, i32_w]
                                       rfl
                                      refine pure_ (i := 17) (N := some 140) (v := ?_) (a' := ?_) #[true, true, true, false, true, true, true, false, false, true, true, true, false, true, false, false, true, true, false, false, false, false, false, false, false, false, false] rfl rfl (any_of HT_.out (by kernel_rfl)) (fun _ _ _ h => h) (Or.inl ⟨by rfl, ?_⟩) ?_ ?_
                                      rotate_left
                                      ·
                                       intro w'
                                       go_simp
                                       with_reducible rfl
                                      rotate_left
                                      ·
                                       simp only [Act.put, List.setIfInBounds_toArray, List.set_cons_zero, List.set_cons_succ, i64_w, i32_w]
                                       rfl
                                      refine pure_ (i := 18) (N := some 141) (v := ?_) (a' := ?_) #[true, true, true, false, true, true, true, false, false, true, true, true, false, true, false, false, true, true, true, false, false, false, false, false, false, false, false] rfl rfl (any_of HT_.out (by kernel_rfl)) (fun _ _ _ h => h) (Or.inl ⟨by rfl, ?_⟩) ?_ ?_
                                      rotate_left
                                      ·
                                       intro w'
                                       go_simp
                                       with_reducible rfl
                                      rotate_left
                                      ·
                                       simp only [Act.put, List.setIfInBounds_toArray, List.set_cons_zero, List.set_cons_succ, i64_w, i32_w]
                                       rfl
                                      refine pure_ (i := 20) (N := some 143) (v := ?_) (a' := ?_) #[true, true, true, false, true, true, true, false, false, true, true, true, false, true, false, false, true, true, true, false, true, false, false, false, false, false, false] rfl rfl (any_of HT_.out (by kernel_rfl)) (fun _ _ _ h => h) (Or.inl ⟨by rfl, ?_⟩) ?_ ?_
                                      rotate_left
                                      ·
                                       intro w'
                                       go_simp
                                       with_reducible rfl
                                      rotate_left
                                      ·
                                       simp only [Act.put, List.setIfInBounds_toArray, List.set_cons_zero, List.set_cons_succ, i64_w, i32_w]
                                       rfl
                                      refine pure_ (i := 21) (N := some 144) (v := ?_) (a' := ?_) #[true, true, true, false, true, true, true, false, false, true, true, true, false, true, false, false, true, true, true, false, true, true, false, false, false, false, false] rfl rfl (any_of HT_.out (by kernel_rfl)) (fun _ _ _ h => h) (Or.inl ⟨by rfl, ?_⟩) ?_ ?_
                                      rotate_left
                                      ·
                                       intro w'
                                       go_simp
                                       with_reducible rfl
                                      rotate_left
                                      ·
                                       simp only [Act.put, List.setIfInBounds_toArray, List.set_cons_zero, List.set_cons_succ, i64_w, i32_w]
                                       rfl
                                      refine pure_ (i := 22) (N := some 145) (v := ?_) (a' := ?_) #[true, true, true, false, true, true, true, false, false, true, true, true, false, true, false, false, true, true, true, false, true, true, true, false, false, false, false] rfl rfl (any_of HT_.out (by kernel_rfl)) (fun _ _ _ h => h) (Or.inl ⟨by rfl, ?_⟩) ?_ ?_
                                      rotate_left
                                      ·
                                       intro w'
                                       go_simp
                                       with_reducible rfl
                                      rotate_left
                                      ·
                                       simp only [Act.put, List.setIfInBounds_toArray, List.set_cons_zero, List.set_cons_succ, i64_w, i32_w]
                                       rfl
                                      refine take_ (i := 3) (N := some 126) (v := ?_) (a' := ?_) #[true, true, true, true, true, true, true, false, false, true, true, true, false, true, false, false, true, true, true, false, true, true, true, false, false, false, false] rfl rfl (take_ofW HT_.out HW_.out (by kernel_rfl)) (fun _ _ _ h => h) (Or.inl ⟨by rfl, ?_⟩) hHeld ?_ ?_
                                      rotate_left
                                      ·
                                       rintro w' ⟨s0, s1, s2, s3, s4, s5⟩
                                       go_simp
                                       with_reducible rfl
                                      rotate_left
                                      ·
                                       simp only [Act.put, List.setIfInBounds_toArray, List.set_cons_zero, List.set_cons_succ, i64_w, i32_w]
                                       rfl
                                      refine take_ (i := 7) (N := some 130) (v := ?_) (a' := ?_) #[true, true, true, true, true, true, true, true, false, true, true, true, false, true, false, false, true, true, true, false, true, true, true, false, false, false, false] rfl rfl (take_ofW HT_.out HW_.out (by kernel_rfl)) (fun _ _ _ h => h) (Or.inl ⟨by rfl, ?_⟩) hHeld ?_ ?_
                                      rotate_left
                                      ·
                                       rintro w' ⟨s0, s1, s2, s3, s4, s5⟩
                                       go_simp
                                       with_reducible rfl
                                      rotate_left
                                      ·
                                       simp only [Act.put, List.setIfInBounds_toArray, List.set_cons_zero, List.set_cons_succ, i64_w, i32_w]
                                       rfl
                                      refine pure_ (i := 8) (N := some 131) (v := ?_) (a' := ?_) #[true, true, true, true, true, true, true, true, true, true, true, true, false, true, false, false, true, true, true, false, true, true, true, false, false, false, false] rfl rfl (any_of HT_.out (by kernel_rfl)) (fun _ _ _ h => h) (Or.inl ⟨by rfl, ?_⟩) ?_ ?_
                                      rotate_left
                                      ·
                                       intro w'
                                       go_simp
                                       with_reducible rfl
                                      rotate_left
                                      ·
                                       simp only [Act.put, List.setIfInBounds_toArray, List.set_cons_zero, List.set_cons_succ, i64_w, i32_w]
                                       rfl
                                      refine take_ (i := 12) (N := some 135) (v := ?_) (a' := ?_) #[true, true, true, true, true, true, true, true, true, true, true, true, true, true, false, false, true, true, true, false, true, true, true, false, false, false, false] rfl rfl (take_ofW HT_.out HW_.out (by kernel_rfl)) (fun _ _ _ h => h) (Or.inl ⟨by rfl, ?_⟩) hHeld ?_ ?_
                                      rotate_left
                                      ·
                                       rintro w' ⟨s0, s1, s2, s3, s4, s5⟩
                                       go_simp
                                       with_reducible rfl
                                      rotate_left
                                      ·
                                       simp only [Act.put, List.setIfInBounds_toArray, List.set_cons_zero, List.set_cons_succ, i64_w, i32_w]
                                       rfl
                                      refine pure_ (i := 14) (N := some 137) (v := ?_) (a' := ?_) #[true, true, true, true, true, true, true, true, true, true, true, true, true, true, true, false, true, true, true, false, true, true, true, false, false, false, false] rfl rfl (any_of HT_.out (by kernel_rfl)) (fun _ _ _ h => h) (Or.inl ⟨by rfl, ?_⟩) ?_ ?_
                                      rotate_left
                                      ·
                                       intro w'
                                       go_simp
                                       with_reducible rfl
                                      rotate_left
                                      ·
                                       simp only [Act.put, List.setIfInBounds_toArray, List.set_cons_zero, List.set_cons_succ, i64_w, i32_w]
                                       rfl
                                      refine take_ (i := 15) (N := some 138) (v := ?_) (a' := ?_) #[true, true, true, true, true, true, true, true, true, true, true, true, true, true, true, true, true, true, true, false, true, true, true, false, false, false, false] rfl rfl (take_ofW HT_.out HW_.out (by kernel_rfl)) (fun _ _ _ h => h) (Or.inl ⟨by rfl, ?_⟩) hHeld ?_ ?_
                                      rotate_left
                                      ·
                                       rintro w' ⟨s0, s1, s2, s3, s4, s5⟩
                                       go_simp
                                       with_reducible rfl
                                      rotate_left
                                      ·
                                       simp only [Act.put, List.setIfInBounds_toArray, List.set_cons_zero, List.set_cons_succ, i64_w, i32_w]
                                       rfl
                                      refine take_ (i := 19) (N := some 142) (v := ?_) (a' := ?_) #[true, true, true, true, true, true, true, true, true, true, true, true, true, true, true, true, true, true, true, true, true, true, true, false, false, false, false] rfl rfl (take_ofW HT_.out HW_.out (by kernel_rfl)) (fun _ _ _ h => h) (Or.inl ⟨by rfl, ?_⟩) hHeld ?_ ?_
                                      rotate_left
                                      ·
                                       rintro w' ⟨s0, s1, s2, s3, s4, s5⟩
                                       go_simp
                                       with_reducible rfl
                                      rotate_left
                                      ·
                                       simp only [Act.put, List.setIfInBounds_toArray, List.set_cons_zero, List.set_cons_succ, i64_w, i32_w]
                                       rfl
                                      refine take_ (i := 23) (N := some 146) (v := ?_) (a' := ?_) #[true, true, true, true, true, true, true, true, true, true, true, true, true, true, true, true, true, true, true, true, true, true, true, true, false, false, false] rfl rfl (take_ofW HT_.out HW_.out (by kernel_rfl)) (fun _ _ _ h => h) (Or.inl ⟨by rfl, ?_⟩) hHeld ?_ ?_
                                      rotate_left
                                      ·
                                       rintro w' ⟨s0, s1, s2, s3, s4, s5⟩
                                       go_simp
                                       with_reducible rfl
                                      rotate_left
                                      ·
                                       simp only [Act.put, List.setIfInBounds_toArray, List.set_cons_zero, List.set_cons_succ, i64_w, i32_w]
                                       rfl
                                      refine pure_ (i := 24) (N := some 147) (v := ?_) (a' := ?_) #[true, true, true, true, true, true, true, true, true, true, true, true, true, true, true, true, true, true, true, true, true, true, true, true, true, false, false] rfl rfl (any_of HT_.out (by kernel_rfl)) (fun _ _ _ h => h) (Or.inl ⟨by rfl, ?_⟩) ?_ ?_
                                      rotate_left
                                      ·
                                       intro w'
                                       go_simp
                                       with_reducible rfl
                                      rotate_left
                                      ·
                                       simp only [Act.put, List.setIfInBounds_toArray, List.set_cons_zero, List.set_cons_succ, i64_w, i32_w]
                                       rfl
                                      refine pure_ (i := 25) (N := some 148) (v := ?_) (a' := ?_) #[true, true, true, true, true, true, true, true, true, true, true, true, true, true, true, true, true, true, true, true, true, true, true, true, true, true, false] rfl rfl (any_of HT_.out (by kernel_rfl)) (fun _ _ _ h => h) (Or.inl ⟨by rfl, ?_⟩) ?_ ?_
                                      rotate_left
                                      ·
                                       intro w'
                                       go_simp
                                       with_reducible rfl
                                      rotate_left
                                      ·
                                       simp only [Act.put, List.setIfInBounds_toArray, List.set_cons_zero, List.set_cons_succ, i64_w, i32_w]
                                       rfl
                                      refine pure_ (i := 26) (N := some 17) (v := ?_) (a' := ?_) #[true, true, true, true, true, true, true, true, true, true, true, true, true, true, true, true, true, true, true, true, true, true, true, true, true, true, true] rfl rfl (any_of HT_.out (by kernel_rfl)) (fun _ _ _ h => h) (Or.inl ⟨by rfl, ?_⟩) ?_ ?_
                                      rotate_left
                                      ·
                                       intro w'
                                       go_simp
                                       with_reducible rfl
                                      rotate_left
                                      ·
                                       simp only [Act.put, List.setIfInBounds_toArray, List.set_cons_zero, List.set_cons_succ, i64_w, i32_w]
                                       rfl
                                      refine done_ (done_of HT_.out (by kernel_rfl)) ?_
                                      try go_wp2
                                      go_roundg kj35
                                      case measure => have := HJ5.out; have := HJ18.out; have := HK3.out; have := HJ28.out; have := HK5.out; have := HK6.out; have := HJ35.out; omega
                                      case rel => exact ⟨(x9_6), (x11_6), (wrap64 (x15_6 - 1)), (by first | rfl | (simp; done) | (simp [*]; done)), H', ⟨by have := HJ5.out; have := HJ18.out; have := HK3.out; have := HJ28.out; have := HK5.out; have := HK6.out; have := HJ35.out; omega⟩, ⟨by (with_reducible repeat (first | apply Kd.R_alloc | apply Kd.R_drewN | apply Kd.R_drew)); exact HO_9.out⟩, ⟨by (with_reducible repeat (first | apply Kd.S_alloc | apply Kd.S_drewN | apply Kd.S_drew)); exact HO_11.out⟩, ⟨by repeat (first | (with_reducible first | exact HB.out | apply below_alloc | apply pw_below_drewN | apply below_drew1) | exact HB.out)⟩⟩
                                   ·
                                    rw [if_neg c50] at H
                                    exact absurd H (by simp)
                                  ·
                                   rw [if_neg c49] at H
                                   exact absurd H (by simp)
                                 ·
                                  rw [if_neg c48] at H
                                  exact absurd H (by simp)
                                ·
                                 rw [if_neg c47] at H
                                 exact absurd H (by simp)
                               ·
                                rw [if_neg c46] at H
                                exact absurd H (by simp)
                              ·
                               rw [if_neg c45] at H
                               exact absurd H (by simp)
                             ·
                              rw [if_neg c44] at H
                              exact absurd H (by simp)
                            ·
                             rw [if_neg c43] at H
                             exact absurd H (by simp)
                           ·
                            rw [if_neg c42] at H
                            exact absurd H (by simp)
                       ·
                        rw [if_neg c35] at H
                        exact absurd H (by simp)
                      ·
                       rw [if_neg c34] at H
                       exact absurd H (by simp)
                     ·
                      rw [if_neg c33] at H
                      have c33b0 : decide (0 ≤ x15_6) = false := decide_eq_false c33
                      clear c33
                      have H' := Aside0.mk H
                      clear H
                      go_wp2
                      go_roundg k6
                      case measure => have := HJ5.out; have := HJ18.out; have := HK3.out; have := HJ28.out; have := HK5.out; have := HK6.out; omega
                      case rel => exact ⟨(x9_6), (x11_6), (wrap64 (x14_5 + 1)), (by first | rfl | (simp; done) | (simp [*]; done)), H', ⟨by have := HJ5.out; have := HJ18.out; have := HK3.out; have := HJ28.out; have := HK5.out; have := HK6.out; omega⟩, ⟨by (with_reducible repeat (first | apply Kd.R_alloc | apply Kd.R_drewN | apply Kd.R_drew)); exact HO_9.out⟩, ⟨by (with_reducible repeat (first | apply Kd.S_alloc | apply Kd.S_drewN | apply Kd.S_drew)); exact HO_11.out⟩, ⟨by repeat (first | (with_reducible first | exact HB.out | apply below_alloc | apply pw_below_drewN | apply below_drew1) | exact HB.out)⟩⟩
                  ·
                   rw [if_neg c32] at H
                   have c32b0 : decide (x14_5 < (l0.length : Int)) = false := decide_eq_false c32
                   clear c32
                   have H' := Aside0.mk H
                   clear H
                   go_wp2
                   go_roundg k5
                   case measure => have := HJ5.out; have := HJ18.out; have := HK3.out; have := HJ28.out; have := HK5.out; omega
                   case rel => exact ⟨(x9_5), (x11_5), (wrap64 (x12_3 + 1)), (by first | rfl | (simp; done) | (simp [*]; done)), H', ⟨by have := HJ5.out; have := HJ18.out; have := HK3.out; have := HJ28.out; have := HK5.out; omega⟩, ⟨by (with_reducible repeat (first | apply Kd.R_alloc | apply Kd.R_drewN | apply Kd.R_drew)); exact HO_9.out⟩, ⟨by (with_reducible repeat (first | apply Kd.S_alloc | apply Kd.S_drewN | apply Kd.S_drew)); exact HO_11.out⟩, ⟨by repeat (first | (with_reducible first | exact HB.out | apply below_alloc | apply pw_below_drewN | apply below_drew1) | exact HB.out)⟩⟩
            ·
             rw [if_neg c28] at H
             exact absurd H (by simp)
           ·
            rw [if_neg c27] at H
            have c27b0 : decide (x12_3 < (l2.length : Int)) = false := decide_eq_false c27
            clear c27
            have H' := Aside0.mk H
            clear H
            go_wp2
            go_loopg [18] k3 (fun kq v18 w' => ∃ (x18_4 : Int), v18 = .int .i64 x18_4 ∧ Aside0 (kinkeeplaw35_QuotaFinds.l3 kq l0 l1 t626 x9_3 x18_4 = some r) ∧ Aside0 (kq ≤ k3) ∧ Aside0 (Kd.R (Kd.int .i64) 3 w' w.heap.size (fun _ => True) v631 x9_3) ∧ Aside0 (Below w.heap.size w w'))
            case atStart => exact ⟨(0), (by first | rfl | (simp; done) | (simp [*]; done)), H', ⟨Nat.le_refl _⟩, ⟨by (with_reducible repeat (first | apply Kd.R_alloc | apply Kd.R_drewN | apply Kd.R_drew)); exact HO_9.out⟩, ⟨by repeat (first | (with_reducible first | exact HB.out | apply below_alloc | apply pw_below_drewN | apply below_drew1) | exact HB.out)⟩⟩
            case round =>
             clear H'
             try clear c2
             try clear p2
             try clear c3
             try clear c4
             try clear c5
             try clear p5
             try clear q5
             try clear hx5
             try clear hf5
             try clear c6
             try clear p6
             try clear q6
             try clear hx6
             try clear c27
             try clear c27b0
             try clear c28
             try clear c32
             try clear c32b0
             try clear c33
             try clear c33b0
             try clear c34
             try clear c35
             try clear c42
             try clear c43
             try clear c44
             try clear c45
             try clear c46
             try clear c47
             try clear c48
             try clear c49
             try clear c50
             try clear c53
             try clear c53b0
             try clear p54
             try clear q54
             try clear hx54
             try clear hf54
             try clear p55
             try clear q55
             try clear hx55
             try clear hf55
             try clear p56
             try clear q56
             try clear hx56
             try clear hf56
             try clear c61
             try clear q61
             try clear p63
             try clear q63
             try clear hx63
             try clear c64
             try clear p64
             try clear q64
             try clear hx64
             try clear p65
             try clear q65
             try clear hx65
             try clear hx54_0
             try clear hx55_0
             try clear hx56_0
             try clear hx638_0
             try clear hx639_0
             try clear hx640_0
             try clear hx641_0
             try clear hx642_0
             try clear hx643_0
             try clear hx644_0
             try clear hx645_0
             try clear hx646_0
             try clear hx650_0
             try clear hx652_0
             try clear p54
             try clear p55
             try clear p56
             try clear p638
             try clear p639
             try clear p640
             try clear p641
             try clear p642
             try clear p643
             try clear p644
             try clear p645
             try clear p646
             try clear p650
             try clear p652
             try clear q54
             try clear q55
             try clear q56
             try clear q638
             try clear q639
             try clear q640
             try clear q641
             try clear q642
             try clear q643
             try clear q644
             try clear q645
             try clear q646
             try clear q650
             try clear q652
             obtain ⟨x18_4, rfl, HA, HK4, HO_9, HB⟩ := hrel
             cases gk with
             | zero => exact absurd HA.out (by simp [kinkeeplaw35_QuotaFinds.l3])
             | succ k4 =>
              have H := HA.out
              clear HA
              simp only [kinkeeplaw35_QuotaFinds.l3] at H
              by_cases c71 : x18_4 < (l0.length : Int)
              ·
               rw [if_pos c71] at H
               have c71b0 : decide (x18_4 < (l0.length : Int)) = true := decide_eq_true c71
               clear c71
               by_cases c72 : 0 ≤ x18_4
               ·
                rw [if_pos c72] at H
                have c72b0 : decide (0 ≤ x18_4) = true := decide_eq_true c72
                clear c72
                by_cases c73 : x18_4 < (x9_3.length : Int)
                ·
                 rw [if_pos c73] at H
                 have c73b0 : decide (x18_4 < (x9_3.length : Int)) = true := decide_eq_true c73
                 clear c73
                 by_cases c74 : x18_4 < (l1.length : Int)
                 ·
                  rw [if_pos c74] at H
                  have c74b0 : decide (x18_4 < (l1.length : Int)) = true := decide_eq_true c74
                  clear c74
                  by_cases c75 : (rd x9_3 x18_4) > (rd l1 x18_4)
                  ·
                   as_aux_lemma =>
                    rw [if_pos c75] at H
                    have c75b0 : decide ((rd l1 x18_4) < (rd x9_3 x18_4)) = true := decide_eq_true c75
                    clear c75
                    obtain rfl := Option.some.inj H
                    try go_wp2
                    have n0_ := Aside0.mk (Kd.R_drew HO_9.out)
                    have n1_ := Aside0.mk (below_drew1 HB.out)
                    clear HO_9
                    clear HB
                    have HO_9 := n0_
                    have HB := n1_
                    clear n0_ n1_
                    obtain ⟨Ao77, co77, eo77⟩ := Kd.R_slice HO_9.out
                    (first | subst eo77 | (injection eo77 with f1_ f2_ f3_; have f4_ := f1_.symm; have f5_ := f3_.symm; clear f1_ f2_ f3_; subst f4_; subst f5_))
                    have p654 : 0 ≤ (x18_4 : Int) := of_decide_eq_true (by first | (with_reducible assumption) | assumption)
                    have q654 : x18_4 < (x9_3.length : Int) := of_decide_eq_true (by first | (with_reducible assumption) | assumption)
                    obtain ⟨ad654, e654, hx654_0⟩ := Kd.at_int (Kd.R_reads' HO_9.out).2.2 x18_4 p654 q654
                    cases e654
                    replace p654 := eq_true p654
                    replace q654 := eq_true q654
                    have p655 : 0 ≤ (x18_4 : Int) := of_decide_eq_true (by first | (with_reducible assumption) | assumption)
                    have q655 : x18_4 < (l1.length : Int) := of_decide_eq_true (by first | (with_reducible assumption) | assumption)
                    obtain ⟨ad655, e655, hx655_0⟩ := Kd.at_int HR1.out x18_4 p655 q655
                    have hw655_0 := hx655_0
                    cases e655
                    replace hx655_0 := (HB.out.cell (World.block_lt_of_cell? w _ hx655_0)).trans hx655_0
                    replace p655 := eq_true p655
                    replace q655 := eq_true q655
                    refine start_ (n := 9) (S := fun w' => w'.cell? (ad654.add (x18_4).toNat) = some (.int .i64 (rd x9_3 x18_4)) ∧ w'.cell? (ad655.add (x18_4).toNat) = some (.int .i64 (rd l1 x18_4))) (ds := []) #[false, false, false, false, false, false, false, false, false] (by kernel_rfl) rfl rfl ⟨hx654_0, ((HB.out.cell (World.block_lt_of_cell? w _ hw655_0)).trans hw655_0)⟩ (fun hHeld => ?_); refine with_tabW kinkeeplaw35_QuotaFinds.tab34 kinkeeplaw35_QuotaFinds.bits34 (fun HT_ HW_ => ?_)
                    generalize wr.drew = w76 at HO_9 HB hx654_0 hx655_0 hHeld ⊢
                    refine pure_ (i := 0) (N := some 190) (v := ?_) (a' := ?_) #[true, false, false, false, false, false, false, false, false] rfl rfl (any_of HT_.out (by kernel_rfl)) (fun _ _ _ h => h) (Or.inl ⟨by rfl, ?_⟩) ?_ ?_
                    rotate_left
                    ·
                     intro w'
                     go_simp
                     with_reducible rfl
                    rotate_left
                    ·
                     simp only [Act.put, List.setIfInBounds_toArray, List.set_cons_zero, List.set_cons_succ, i64_w, i32_w]
                     rfl
                    refine pure_ (i := 1) (N := some 191) (v := ?_) (a' := ?_) #[true, true, false, false, false, false, false, false, false] rfl rfl (any_of HT_.out (by kernel_rfl)) (fun _ _ _ h => h) (Or.inl ⟨by rfl, ?_⟩) ?_ ?_
                    rotate_left
                    ·
                     intro w'
                     go_simp
                     with_reducible rfl
                    rotate_left
                    ·
                     simp only [Act.put, List.setIfInBounds_toArray, List.set_cons_zero, List.set_cons_succ, i64_w, i32_w]
                     rfl
                    refine pure_ (i := 2) (N := some 192) (v := ?_) (a' := ?_) #[true, true, true, false, false, false, false, false, false] rfl rfl (any_of HT_.out (by kernel_rfl)) (fun _ _ _ h => h) (Or.inl ⟨by rfl, ?_⟩) ?_ ?_
                    rotate_left
                    ·
                     intro w'
                     go_simp
                     with_reducible rfl
                    rotate_left
                    ·
                     simp only [Act.put, List.setIfInBounds_toArray, List.set_cons_zero, List.set_cons_succ, i64_w, i32_w]
                     rfl
                    refine pure_ (i := 4) (N := some 194) (v := ?_) (a' := ?_) #[true, true, true, false, true, false, false, false, false] rfl rfl (any_of HT_.out (by kernel_rfl)) (fun _ _ _ h => h) (Or.inl ⟨by rfl, ?_⟩) ?_ ?_
                    rotate_left
                    ·
                     intro w'
                     go_simp
                     with_reducible rfl
                    rotate_left
                    ·
                     simp only [Act.put, List.setIfInBounds_toArray, List.set_cons_zero, List.set_cons_succ, i64_w, i32_w]
                     rfl
                    refine pure_ (i := 5) (N := some 195) (v := ?_) (a' := ?_) #[true, true, true, false, true, true, false, false, false] rfl rfl (any_of HT_.out (by kernel_rfl)) (fun _ _ _ h => h) (Or.inl ⟨by rfl, ?_⟩) ?_ ?_
                    rotate_left
                    ·
                     intro w'
                     go_simp
                     with_reducible rfl
                    rotate_left
                    ·
                     simp only [Act.put, List.setIfInBounds_toArray, List.set_cons_zero, List.set_cons_succ, i64_w, i32_w]
                     rfl
                    refine pure_ (i := 6) (N := some 196) (v := ?_) (a' := ?_) #[true, true, true, false, true, true, true, false, false] rfl rfl (any_of HT_.out (by kernel_rfl)) (fun _ _ _ h => h) (Or.inl ⟨by rfl, ?_⟩) ?_ ?_
                    rotate_left
                    ·
                     intro w'
                     go_simp
                     with_reducible rfl
                    rotate_left
                    ·
                     simp only [Act.put, List.setIfInBounds_toArray, List.set_cons_zero, List.set_cons_succ, i64_w, i32_w]
                     rfl
                    refine take_ (i := 3) (N := some 193) (v := ?_) (a' := ?_) #[true, true, true, true, true, true, true, false, false] rfl rfl (take_ofW HT_.out HW_.out (by kernel_rfl)) (fun _ _ _ h => h) (Or.inl ⟨by rfl, ?_⟩) hHeld ?_ ?_
                    rotate_left
                    ·
                     rintro w' ⟨s0, s1⟩
                     go_simp
                     with_reducible rfl
                    rotate_left
                    ·
                     simp only [Act.put, List.setIfInBounds_toArray, List.set_cons_zero, List.set_cons_succ, i64_w, i32_w]
                     rfl
                    refine take_ (i := 7) (N := some 197) (v := ?_) (a' := ?_) #[true, true, true, true, true, true, true, true, false] rfl rfl (take_ofW HT_.out HW_.out (by kernel_rfl)) (fun _ _ _ h => h) (Or.inl ⟨by rfl, ?_⟩) hHeld ?_ ?_
                    rotate_left
                    ·
                     rintro w' ⟨s0, s1⟩
                     go_simp
                     with_reducible rfl
                    rotate_left
                    ·
                     simp only [Act.put, List.setIfInBounds_toArray, List.set_cons_zero, List.set_cons_succ, i64_w, i32_w]
                     rfl
                    refine pure_ (i := 8) (N := some 198) (v := ?_) (a' := ?_) #[true, true, true, true, true, true, true, true, true] rfl rfl (any_of HT_.out (by kernel_rfl)) (fun _ _ _ h => h) (Or.inl ⟨by rfl, ?_⟩) ?_ ?_
                    rotate_left
                    ·
                     intro w'
                     go_simp
                     with_reducible rfl
                    rotate_left
                    ·
                     simp only [Act.put, List.setIfInBounds_toArray, List.set_cons_zero, List.set_cons_succ, i64_w, i32_w]
                     rfl
                    refine done_ (done_of HT_.out (by kernel_rfl)) ?_
                    try go_wp2
                    go_ret
                    exact ⟨by first | rfl | (simp [errW_none, errW_some] <;> rfl) | (simp [*, errW_none, errW_some] <;> rfl), by repeat (first | (with_reducible first | exact HB.out | apply below_alloc | apply pw_below_drewN | apply below_drew1) | exact HB.out)⟩
                  ·
                   as_aux_lemma =>
                    rw [if_neg c75] at H
                    have c75b0 : decide ((rd l1 x18_4) < (rd x9_3 x18_4)) = false := decide_eq_false c75
                    clear c75
                    have H' := Aside0.mk H
                    clear H
                    try go_wp2
                    have n0_ := Aside0.mk (Kd.R_drew HO_9.out)
                    have n1_ := Aside0.mk (below_drew1 HB.out)
                    clear HO_9
                    clear HB
                    have HO_9 := n0_
                    have HB := n1_
                    clear n0_ n1_
                    obtain ⟨Ao79, co79, eo79⟩ := Kd.R_slice HO_9.out
                    (first | subst eo79 | (injection eo79 with f1_ f2_ f3_; have f4_ := f1_.symm; have f5_ := f3_.symm; clear f1_ f2_ f3_; subst f4_; subst f5_))
                    have p654 : 0 ≤ (x18_4 : Int) := of_decide_eq_true (by first | (with_reducible assumption) | assumption)
                    have q654 : x18_4 < (x9_3.length : Int) := of_decide_eq_true (by first | (with_reducible assumption) | assumption)
                    obtain ⟨ad654, e654, hx654_0⟩ := Kd.at_int (Kd.R_reads' HO_9.out).2.2 x18_4 p654 q654
                    cases e654
                    replace p654 := eq_true p654
                    replace q654 := eq_true q654
                    have p655 : 0 ≤ (x18_4 : Int) := of_decide_eq_true (by first | (with_reducible assumption) | assumption)
                    have q655 : x18_4 < (l1.length : Int) := of_decide_eq_true (by first | (with_reducible assumption) | assumption)
                    obtain ⟨ad655, e655, hx655_0⟩ := Kd.at_int HR1.out x18_4 p655 q655
                    have hw655_0 := hx655_0
                    cases e655
                    replace hx655_0 := (HB.out.cell (World.block_lt_of_cell? w _ hx655_0)).trans hx655_0
                    replace p655 := eq_true p655
                    replace q655 := eq_true q655
                    refine start_ (n := 9) (S := fun w' => w'.cell? (ad654.add (x18_4).toNat) = some (.int .i64 (rd x9_3 x18_4)) ∧ w'.cell? (ad655.add (x18_4).toNat) = some (.int .i64 (rd l1 x18_4))) (ds := []) #[false, false, false, false, false, false, false, false, false] (by kernel_rfl) rfl rfl ⟨hx654_0, ((HB.out.cell (World.block_lt_of_cell? w _ hw655_0)).trans hw655_0)⟩ (fun hHeld => ?_); refine with_tabW kinkeeplaw35_QuotaFinds.tab34 kinkeeplaw35_QuotaFinds.bits34 (fun HT_ HW_ => ?_)
                    generalize wr.drew = w78 at HO_9 HB hx654_0 hx655_0 hHeld ⊢
                    refine pure_ (i := 0) (N := some 190) (v := ?_) (a' := ?_) #[true, false, false, false, false, false, false, false, false] rfl rfl (any_of HT_.out (by kernel_rfl)) (fun _ _ _ h => h) (Or.inl ⟨by rfl, ?_⟩) ?_ ?_
                    rotate_left
                    ·
                     intro w'
                     go_simp
                     with_reducible rfl
                    rotate_left
                    ·
                     simp only [Act.put, List.setIfInBounds_toArray, List.set_cons_zero, List.set_cons_succ, i64_w, i32_w]
                     rfl
                    refine pure_ (i := 1) (N := some 191) (v := ?_) (a' := ?_) #[true, true, false, false, false, false, false, false, false] rfl rfl (any_of HT_.out (by kernel_rfl)) (fun _ _ _ h => h) (Or.inl ⟨by rfl, ?_⟩) ?_ ?_
                    rotate_left
                    ·
                     intro w'
                     go_simp
                     with_reducible rfl
                    rotate_left
                    ·
                     simp only [Act.put, List.setIfInBounds_toArray, List.set_cons_zero, List.set_cons_succ, i64_w, i32_w]
                     rfl
                    refine pure_ (i := 2) (N := some 192) (v := ?_) (a' := ?_) #[true, true, true, false, false, false, false, false, false] rfl rfl (any_of HT_.out (by kernel_rfl)) (fun _ _ _ h => h) (Or.inl ⟨by rfl, ?_⟩) ?_ ?_
                    rotate_left
                    ·
                     intro w'
                     go_simp
                     with_reducible rfl
                    rotate_left
                    ·
                     simp only [Act.put, List.setIfInBounds_toArray, List.set_cons_zero, List.set_cons_succ, i64_w, i32_w]
                     rfl
                    refine pure_ (i := 4) (N := some 194) (v := ?_) (a' := ?_) #[true, true, true, false, true, false, false, false, false] rfl rfl (any_of HT_.out (by kernel_rfl)) (fun _ _ _ h => h) (Or.inl ⟨by rfl, ?_⟩) ?_ ?_
                    rotate_left
                    ·
                     intro w'
                     go_simp
                     with_reducible rfl
                    rotate_left
                    ·
                     simp only [Act.put, List.setIfInBounds_toArray, List.set_cons_zero, List.set_cons_succ, i64_w, i32_w]
                     rfl
                    refine pure_ (i := 5) (N := some 195) (v := ?_) (a' := ?_) #[true, true, true, false, true, true, false, false, false] rfl rfl (any_of HT_.out (by kernel_rfl)) (fun _ _ _ h => h) (Or.inl ⟨by rfl, ?_⟩) ?_ ?_
                    rotate_left
                    ·
                     intro w'
                     go_simp
                     with_reducible rfl
                    rotate_left
                    ·
                     simp only [Act.put, List.setIfInBounds_toArray, List.set_cons_zero, List.set_cons_succ, i64_w, i32_w]
                     rfl
                    refine pure_ (i := 6) (N := some 196) (v := ?_) (a' := ?_) #[true, true, true, false, true, true, true, false, false] rfl rfl (any_of HT_.out (by kernel_rfl)) (fun _ _ _ h => h) (Or.inl ⟨by rfl, ?_⟩) ?_ ?_
                    rotate_left
                    ·
                     intro w'
                     go_simp
                     with_reducible rfl
                    rotate_left
                    ·
                     simp only [Act.put, List.setIfInBounds_toArray, List.set_cons_zero, List.set_cons_succ, i64_w, i32_w]
                     rfl
                    refine take_ (i := 3) (N := some 193) (v := ?_) (a' := ?_) #[true, true, true, true, true, true, true, false, false] rfl rfl (take_ofW HT_.out HW_.out (by kernel_rfl)) (fun _ _ _ h => h) (Or.inl ⟨by rfl, ?_⟩) hHeld ?_ ?_
                    rotate_left
                    ·
                     rintro w' ⟨s0, s1⟩
                     go_simp
                     with_reducible rfl
                    rotate_left
                    ·
                     simp only [Act.put, List.setIfInBounds_toArray, List.set_cons_zero, List.set_cons_succ, i64_w, i32_w]
                     rfl
                    refine take_ (i := 7) (N := some 197) (v := ?_) (a' := ?_) #[true, true, true, true, true, true, true, true, false] rfl rfl (take_ofW HT_.out HW_.out (by kernel_rfl)) (fun _ _ _ h => h) (Or.inl ⟨by rfl, ?_⟩) hHeld ?_ ?_
                    rotate_left
                    ·
                     rintro w' ⟨s0, s1⟩
                     go_simp
                     with_reducible rfl
                    rotate_left
                    ·
                     simp only [Act.put, List.setIfInBounds_toArray, List.set_cons_zero, List.set_cons_succ, i64_w, i32_w]
                     rfl
                    refine pure_ (i := 8) (N := some 198) (v := ?_) (a' := ?_) #[true, true, true, true, true, true, true, true, true] rfl rfl (any_of HT_.out (by kernel_rfl)) (fun _ _ _ h => h) (Or.inl ⟨by rfl, ?_⟩) ?_ ?_
                    rotate_left
                    ·
                     intro w'
                     go_simp
                     with_reducible rfl
                    rotate_left
                    ·
                     simp only [Act.put, List.setIfInBounds_toArray, List.set_cons_zero, List.set_cons_succ, i64_w, i32_w]
                     rfl
                    refine done_ (done_of HT_.out (by kernel_rfl)) ?_
                    try go_wp2
                    go_roundg k4
                    case measure => have := HJ5.out; have := HJ18.out; have := HK3.out; have := HK4.out; omega
                    case rel => exact ⟨(wrap64 (x18_4 + 1)), (by first | rfl | (simp; done) | (simp [*]; done)), H', ⟨by have := HJ5.out; have := HJ18.out; have := HK3.out; have := HK4.out; omega⟩, ⟨by (with_reducible repeat (first | apply Kd.R_alloc | apply Kd.R_drewN | apply Kd.R_drew)); exact HO_9.out⟩, ⟨by repeat (first | (with_reducible first | exact HB.out | apply below_alloc | apply pw_below_drewN | apply below_drew1) | exact HB.out)⟩⟩
                 ·
                  rw [if_neg c74] at H
                  exact absurd H (by simp)
                ·
                 rw [if_neg c73] at H
                 exact absurd H (by simp)
               ·
                rw [if_neg c72] at H
                exact absurd H (by simp)
              ·
               rw [if_neg c71] at H
               have c71b0 : decide (x18_4 < (l0.length : Int)) = false := decide_eq_false c71
               clear c71
               obtain rfl := Option.some.inj H
               go_wp2
               go_ret
               exact ⟨by first | rfl | (simp [errW_none, errW_some] <;> rfl) | (simp [*, errW_none, errW_some] <;> rfl), by repeat (first | (with_reducible first | exact HB.out | apply below_alloc | apply pw_below_drewN | apply below_drew1) | exact HB.out)⟩
 ·
  replace c5 := Bool.eq_false_iff.mpr c5
  subst c5
  have H1 : (some false) = some r := by rw [if_neg (show ¬ (false = true) by decide)] at H; exact H
  clear H
  have H := H1
  clear H1
  obtain rfl := Option.some.inj H
  go_enter Try.func11, Try.ntmps11
  go_wp2_with (first | ((with_reducible refine gate_callee (f := 14) rfl ?_); refine goesL_ (some 19) rfl rfl Try.func14 (by kernel_rfl) rfl #[] rfl (by (try simp only [List.map_toArray, List.map_cons, List.map_nil]); first | done | rfl | (simp only [List.length_drop, List.length_take]; rfl)) ?_; (with_reducible refine (kinkeeplaw35_awake.calls k  false _ A4.out).mono ?_); rintro e w80 ⟨rfl, hb⟩; refine ⟨_, rfl, ?_⟩; have n0_ := Aside0.mk (below_step (by repeat (first | (with_reducible first | exact HB.out | apply below_alloc | apply pw_below_drewN | apply below_drew1) | exact HB.out)) hb); clear HB; have HB := n0_; clear n0_; (try clear hb); (try clear hb2); (try clear hk); (try clear hi)))
  go_ret
  exact ⟨by first | rfl | (simp [errW_none, errW_some] <;> rfl) | (simp [*, errW_none, errW_some] <;> rfl), by repeat (first | (with_reducible first | exact HB.out | apply below_alloc | apply pw_below_drewN | apply below_drew1) | exact HB.out)⟩

end Go.Proofs.Ytdljbmgknhbceaa.Q
