-- Printed by this seat's own driver (tools/mkprint.sh) out of the kit's print.py over stub bodies; parts are then proved by hand.
import Derived.Test.YtdljbmgknhbceaaQx0
import Derived.Test.YtdljbmgknhbceaaQv
import Derived.Test.YtdljbmgknhbceaaQx25
import Derived.Test.YtdljbmgknhbceaaQr
namespace Go.Proofs.Ytdljbmgknhbceaa.Q
open Go.RowKit Go.Proofs.YtdljbmgknhbceaaW.PrintWords Go.Proofs.YtdljbmgknhbceaaW.PrintLast Go.Proofs.YtdljbmgknhbceaaW.PrintMore
attribute [local go_sem] max2_int min2_int max_two min_two max_three min_three max_four min_four   -- for this text's walks alone
set_option linter.unusedVariables false
set_option linter.unusedSimpArgs false

/-! ### kinkeeplaw35_QuotaAllowed: function 6 -/
mutual
def kinkeeplaw35_QuotaAllowed.j0 : Nat → List (List Int) → List Int → Int → Int → Int → Bool → Option (Bool)
  | 0, _, _, _, _, _, _ => none
  | k + 1, x0, x1, x2, x3, x4, x24 => if x24 = true then (some true) else ((quota_Allowed.f k x0 x1 x2 x3 x4).bind fun bt407 => ((kinkeepref35_Valid.f k x0).bind fun t409 => (if t409 = true then ((kinkeepref35_Quotas.f k x0 x1).bind fun t410 => (if t410 = true then (if x2 < 0 then (kinkeeplaw35_QuotaAllowed.j1 k x0 x1 x2 x3 x4 bt407.1 bt407.2 true) else (if x2 > 1099511627776 then (kinkeeplaw35_QuotaAllowed.j1 k x0 x1 x2 x3 x4 bt407.1 bt407.2 true) else (if x3 < 0 then (kinkeeplaw35_QuotaAllowed.j1 k x0 x1 x2 x3 x4 bt407.1 bt407.2 true) else (if x3 ≥ (x0.length : Int) then (kinkeeplaw35_QuotaAllowed.j1 k x0 x1 x2 x3 x4 bt407.1 bt407.2 true) else (if x4 < 0 then (kinkeeplaw35_QuotaAllowed.j1 k x0 x1 x2 x3 x4 bt407.1 bt407.2 true) else (if x4 ≥ (x0.length : Int) then (kinkeeplaw35_QuotaAllowed.j1 k x0 x1 x2 x3 x4 bt407.1 bt407.2 true) else (kinkeeplaw35_QuotaAllowed.j1 k x0 x1 x2 x3 x4 bt407.1 bt407.2 (x3 == x4)))))))) else (kinkeeplaw35_QuotaAllowed.j1 k x0 x1 x2 x3 x4 bt407.1 bt407.2 true))) else (kinkeeplaw35_QuotaAllowed.j1 k x0 x1 x2 x3 x4 bt407.1 bt407.2 true))))
def kinkeeplaw35_QuotaAllowed.j1 : Nat → List (List Int) → List Int → Int → Int → Int → Int → Int → Bool → Option (Bool)
  | 0, _, _, _, _, _, _, _, _ => none
  | k + 1, x0, x1, x2, x3, x4, x11, x12, x75 => if x75 = true then (if x11 = 0 then (some (x12 == 1)) else (some false)) else (if 0 ≤ x3 then (if x3 < (x1.length : Int) then ((kinkeepref35_Held.f k x0).bind fun t412 => (if x3 < (t412.length : Int) then ((kinkeepref35_Balance.f k x0).bind fun t416 => (if 0 ≤ x4 then (if x4 < (t416.length : Int) then (if x11 = (mx 0 (mn (wrap64 ((rd x1 x3) - (rd t412 x3))) (wrap64 (x2 - (rd t416 x4))))) then (some (x12 == 0)) else (some false)) else (none)) else (none))) else (none))) else (none)) else (none))
end
def kinkeeplaw35_QuotaAllowed.f (k : Nat) (l0 : List (List Int)) (l1 : List Int) (a2 : Int) (a3 : Int) (a4 : Int) : Option (Bool) := (kinkeeplaw35_awake.f k).bind fun t406 => (if t406 = true then (if (l0.length : Int) > 14 then (kinkeeplaw35_QuotaAllowed.j0 k l0 l1 a2 a3 a4 true) else (kinkeeplaw35_QuotaAllowed.j0 k l0 l1 a2 a3 a4 (decide ((l1.length : Int) > 20)))) else (some false))
theorem kinkeeplaw35_QuotaAllowed.mono_l : ∀ k, (∀ y0 y1 y2 y3 y4 y5, LeO (kinkeeplaw35_QuotaAllowed.j0 k y0 y1 y2 y3 y4 y5) (kinkeeplaw35_QuotaAllowed.j0 (k + 1) y0 y1 y2 y3 y4 y5)) ∧ (∀ y0 y1 y2 y3 y4 y5 y6 y7, LeO (kinkeeplaw35_QuotaAllowed.j1 k y0 y1 y2 y3 y4 y5 y6 y7) (kinkeeplaw35_QuotaAllowed.j1 (k + 1) y0 y1 y2 y3 y4 y5 y6 y7))
  | 0 => ⟨fun _ _ _ _ _ _ r h => by simp [kinkeeplaw35_QuotaAllowed.j0] at h, fun _ _ _ _ _ _ _ _ r h => by simp [kinkeeplaw35_QuotaAllowed.j1] at h⟩
  | k + 1 => by
    obtain ⟨ih0, ih1⟩ := kinkeeplaw35_QuotaAllowed.mono_l k
    refine ⟨?_, ?_⟩
    · intro y0 y1 y2 y3 y4 y5
      unfold kinkeeplaw35_QuotaAllowed.j0
      repeat' first
      | (with_reducible exact ih0 _ _ _ _ _ _)
      | (with_reducible exact ih1 _ _ _ _ _ _ _ _)
      | (with_reducible exact kinkeeplaw35_awake.mono _)
      | (with_reducible exact kinkeepref35_Balance.mono _ _)
      | (with_reducible exact kinkeepref35_Held.mono _ _)
      | (with_reducible exact kinkeepref35_Quotas.mono _ _ _)
      | (with_reducible exact kinkeepref35_Valid.mono _ _)
      | (with_reducible exact quota_Allowed.mono _ _ _ _ _ _)
      | (with_reducible exact LeO.refl _)
      | (with_reducible exact LeO.none _)
      | (with_reducible refine LeO.ite ?_ ?_)
      | (with_reducible refine LeO.bind ?_ (fun _ => ?_))
      | exact ih0 _ _ _ _ _ _
      | exact ih1 _ _ _ _ _ _ _ _
      | exact kinkeeplaw35_awake.mono _
      | exact kinkeepref35_Balance.mono _ _
      | exact kinkeepref35_Held.mono _ _
      | exact kinkeepref35_Quotas.mono _ _ _
      | exact kinkeepref35_Valid.mono _ _
      | exact quota_Allowed.mono _ _ _ _ _ _
      | exact LeO.none _
      | refine LeO.ite ?_ ?_
      | refine LeO.bind ?_ (fun _ => ?_)
    · intro y0 y1 y2 y3 y4 y5 y6 y7
      unfold kinkeeplaw35_QuotaAllowed.j1
      repeat' first
      | (with_reducible exact ih0 _ _ _ _ _ _)
      | (with_reducible exact ih1 _ _ _ _ _ _ _ _)
      | (with_reducible exact kinkeeplaw35_awake.mono _)
      | (with_reducible exact kinkeepref35_Balance.mono _ _)
      | (with_reducible exact kinkeepref35_Held.mono _ _)
      | (with_reducible exact kinkeepref35_Quotas.mono _ _ _)
      | (with_reducible exact kinkeepref35_Valid.mono _ _)
      | (with_reducible exact quota_Allowed.mono _ _ _ _ _ _)
      | (with_reducible exact LeO.refl _)
      | (with_reducible exact LeO.none _)
      | (with_reducible refine LeO.ite ?_ ?_)
      | (with_reducible refine LeO.bind ?_ (fun _ => ?_))
      | exact ih0 _ _ _ _ _ _
      | exact ih1 _ _ _ _ _ _ _ _
      | exact kinkeeplaw35_awake.mono _
      | exact kinkeepref35_Balance.mono _ _
      | exact kinkeepref35_Held.mono _ _
      | exact kinkeepref35_Quotas.mono _ _ _
      | exact kinkeepref35_Valid.mono _ _
      | exact quota_Allowed.mono _ _ _ _ _ _
      | exact LeO.none _
      | refine LeO.ite ?_ ?_
      | refine LeO.bind ?_ (fun _ => ?_)
theorem kinkeeplaw35_QuotaAllowed.mono : ∀ a0 a1 a2 a3 a4 k, LeO (kinkeeplaw35_QuotaAllowed.f k a0 a1 a2 a3 a4) (kinkeeplaw35_QuotaAllowed.f (k + 1) a0 a1 a2 a3 a4) := by
  intro a0 a1 a2 a3 a4 k
  obtain ⟨ih0, ih1⟩ := kinkeeplaw35_QuotaAllowed.mono_l k
  unfold kinkeeplaw35_QuotaAllowed.f
  repeat' first
      | (with_reducible exact ih0 _ _ _ _ _ _)
      | (with_reducible exact ih1 _ _ _ _ _ _ _ _)
      | (with_reducible exact kinkeeplaw35_awake.mono _)
      | (with_reducible exact kinkeepref35_Balance.mono _ _)
      | (with_reducible exact kinkeepref35_Held.mono _ _)
      | (with_reducible exact kinkeepref35_Quotas.mono _ _ _)
      | (with_reducible exact kinkeepref35_Valid.mono _ _)
      | (with_reducible exact quota_Allowed.mono _ _ _ _ _ _)
      | (with_reducible exact LeO.refl _)
      | (with_reducible exact LeO.none _)
      | (with_reducible refine LeO.ite ?_ ?_)
      | (with_reducible refine LeO.bind ?_ (fun _ => ?_))
      | exact ih0 _ _ _ _ _ _
      | exact ih1 _ _ _ _ _ _ _ _
      | exact kinkeeplaw35_awake.mono _
      | exact kinkeepref35_Balance.mono _ _
      | exact kinkeepref35_Held.mono _ _
      | exact kinkeepref35_Quotas.mono _ _ _
      | exact kinkeepref35_Valid.mono _ _
      | exact quota_Allowed.mono _ _ _ _ _ _
      | exact LeO.none _
      | refine LeO.ite ?_ ?_
      | refine LeO.bind ?_ (fun _ => ?_)
def kinkeeplaw35_QuotaAllowed.T9 : Bool × List (List Nat × List Nat) := (true, [([], []), ([], []), ([0, 1], [0, 1]), ([2], [2]), ([], []), ([4], [4]), ([], []), ([5, 6], [5, 6]), ([7], [7]), ([3, 8], [3, 8]), ([], []), ([], []), ([11, 5], [11]), ([], []), ([12, 13], [12, 13]), ([14], [14]), ([10, 15], [10, 15]), ([9, 16], [9, 16]), ([17, 12, 0, 1, 2, 3, 4, 5, 6, 7, 8, 9, 10, 11, 12, 13, 14, 15, 16, 17], [17])])
def kinkeeplaw35_QuotaAllowed.B9 : List Nat := [0, 0, 3, 7, 0, 16, 0, 112, 240, 511, 0, 0, 2096, 0, 14384, 30768, 64560, 131071, 262143]
theorem kinkeeplaw35_QuotaAllowed.tab9 : rtab .any (opsOf Try.f6 9) = kinkeeplaw35_QuotaAllowed.T9 := by kernel_rfl
theorem kinkeeplaw35_QuotaAllowed.bits9 : waitsOk kinkeeplaw35_QuotaAllowed.T9.2 kinkeeplaw35_QuotaAllowed.B9 = true := by kernel_rfl
set_option maxHeartbeats 8000000 in
set_option maxRecDepth 100000 in
theorem kinkeeplaw35_QuotaAllowed.calls (k : Nat) (A0 : Option Addr) (c0 : Nat) (l0 : List (List Int)) (A1 : Option Addr) (c1 : Nat) (l1 : List Int) (a2 : Int) (a3 : Int) (a4 : Int) (r : Bool) (w : World) (hr0 : Kd.C (Kd.slice 3 (Kd.int .i64)) w A0 l0.length l0) (hc0 : l0.length ≤ c0) (hr1 : Kd.C (Kd.int .i64) w A1 l1.length l1) (hc1 : l1.length ≤ c1) (h : kinkeeplaw35_QuotaAllowed.f k l0 l1 a2 a3 a4 = some r) :
    Calls Try.prog 6 #[.slice A0 l0.length c0, .slice A1 l1.length c1, .int .i64 a2, .int .i64 a3, .int .i64 a4] w fun e w' => e = .returned (.bool r) ∧ Below w.heap.size w w' := by
  have HR0 := Aside0.mk hr0
  have HC0 := Aside0.mk hc0
  clear hr0 hc0
  have HR1 := Aside0.mk hr1
  have HC1 := Aside0.mk hc1
  clear hr1 hc1
  have HB := Aside0.mk (Below.refl w.heap.size w)
  have H : ((kinkeeplaw35_awake.f k).bind fun t406 => (if t406 = true then (if (l0.length : Int) > 14 then (kinkeeplaw35_QuotaAllowed.j0 k l0 l1 a2 a3 a4 true) else (kinkeeplaw35_QuotaAllowed.j0 k l0 l1 a2 a3 a4 (decide ((l1.length : Int) > 20)))) else (some false))) = some r := h
  clear h
  replace H := Option.bind_eq_some_iff.mp H
  obtain ⟨t406, A60, H⟩ := H
  replace H : (if t406 = true then (if (l0.length : Int) > 14 then (kinkeeplaw35_QuotaAllowed.j0 k l0 l1 a2 a3 a4 true) else (kinkeeplaw35_QuotaAllowed.j0 k l0 l1 a2 a3 a4 (decide ((l1.length : Int) > 20)))) else (some false)) = some r := H
  have A6 := Aside0.mk A60
  clear A60
  by_cases c7 : t406 = true
  · subst c7
    have H1 : (if (l0.length : Int) > 14 then (kinkeeplaw35_QuotaAllowed.j0 k l0 l1 a2 a3 a4 true) else (kinkeeplaw35_QuotaAllowed.j0 k l0 l1 a2 a3 a4 (decide ((l1.length : Int) > 20)))) = some r := by rw [if_pos rfl] at H; exact H
    clear H
    have H := H1
    clear H1
    have HC8 := Aside0.mk H
    clear H
    go_enter Try.func6, Try.ntmps6
    go_upto_region 3 with (first | ((with_reducible refine gate_callee (f := 14) rfl ?_); refine goesL_ (some 15) rfl rfl Try.func14 (by kernel_rfl) rfl #[] rfl (by (try simp only [List.map_toArray, List.map_cons, List.map_nil]); first | done | rfl | (simp only [List.length_drop, List.length_take]; rfl)) ?_; (with_reducible refine (kinkeeplaw35_awake.calls k  true _ A6.out).mono ?_); rintro e w9 ⟨rfl, hb⟩; refine ⟨_, rfl, ?_⟩; have n0_ := Aside0.mk (below_step (by repeat (first | (with_reducible first | exact HB.out | apply below_alloc | apply pw_below_drewN | apply below_drew1) | exact HB.out)) hb); clear HB; have HB := n0_; clear n0_; (try clear hb); (try clear hb2); (try clear hk); (try clear hi)))
    (try simp only [Act.put, List.setIfInBounds_toArray, List.set_cons_zero, List.set_cons_succ])
    go_cut [24] (fun v24 wc => ∃ (kq : Nat) (x24_7 : Bool), v24 = .bool x24_7 ∧ Aside0 (kinkeeplaw35_QuotaAllowed.j0 kq l0 l1 a2 a3 a4 x24_7 = some r) ∧ Aside0 (kq ≤ k) ∧ Aside0 (Below w.heap.size w wc))
    case first =>
      have H := HC8.out
      clear HC8
      by_cases c10 : (l0.length : Int) > 14
      · rw [if_pos c10] at H
        have c10b0 : decide (14 < (l0.length : Int)) = true := decide_eq_true c10
        have c10b1 : decide (14 < l0.length) = true := decide_eq_true (by omega)
        clear c10
        (first | rw [c10b0] | (simp only [i64_w, i32_w]; rw [c10b0]) | skip)
        have H' := Aside0.mk H
        clear H
        go_wp2
        go_meet
        case rel => exact ⟨_, (true), (by first | rfl | (simp; done) | (simp [*]; done)), H', ⟨by first | omega | exact Nat.le_refl _⟩, ⟨by repeat (first | (with_reducible first | exact HB.out | apply below_alloc | apply pw_below_drewN | apply below_drew1) | exact HB.out)⟩⟩
      · rw [if_neg c10] at H
        have c10b0 : decide (14 < (l0.length : Int)) = false := decide_eq_false c10
        have c10b1 : decide (14 < l0.length) = false := decide_eq_false (by omega)
        clear c10
        (first | rw [c10b0] | (simp only [i64_w, i32_w]; rw [c10b0]) | skip)
        have H' := Aside0.mk H
        clear H
        go_wp2
        go_meet
        case rel => exact ⟨_, (decide ((l1.length : Int) > 20)), (by first | rfl | (simp; done) | (simp [*]; done)), H', ⟨by first | omega | exact Nat.le_refl _⟩, ⟨by repeat (first | (with_reducible first | exact HB.out | apply below_alloc | apply pw_below_drewN | apply below_drew1) | exact HB.out)⟩⟩
    case rest =>
      clear HC8
      try clear c1
      try clear p2
      try clear c6
      try clear c7
      try clear c10
      try clear c10b0
      try clear c10b1
      obtain ⟨kq, x24_7, rfl, HA, HJ7, HB⟩ := hcut
      cases kq with
      | zero => exact absurd HA.out (by simp [kinkeeplaw35_QuotaAllowed.j0])
      | succ kj7 =>
        have H := HA.out
        clear HA
        simp only [kinkeeplaw35_QuotaAllowed.j0] at H
        by_cases c11 : x24_7 = true
        · subst c11
          have H1 : (some true) = some r := by rw [if_pos rfl] at H; exact H
          clear H
          have H := H1
          clear H1
          obtain rfl := Option.some.inj H
          go_wp2
          go_ret
          exact ⟨by first | rfl | (simp [errW_none, errW_some] <;> rfl) | (simp [*, errW_none, errW_some] <;> rfl), by repeat (first | (with_reducible first | exact HB.out | apply below_alloc | apply pw_below_drewN | apply below_drew1) | exact HB.out)⟩
        · replace c11 := Bool.eq_false_iff.mpr c11
          subst c11
          have H1 : ((quota_Allowed.f kj7 l0 l1 a2 a3 a4).bind fun bt407 => ((kinkeepref35_Valid.f kj7 l0).bind fun t409 => (if t409 = true then ((kinkeepref35_Quotas.f kj7 l0 l1).bind fun t410 => (if t410 = true then (if a2 < 0 then (kinkeeplaw35_QuotaAllowed.j1 kj7 l0 l1 a2 a3 a4 bt407.1 bt407.2 true) else (if a2 > 1099511627776 then (kinkeeplaw35_QuotaAllowed.j1 kj7 l0 l1 a2 a3 a4 bt407.1 bt407.2 true) else (if a3 < 0 then (kinkeeplaw35_QuotaAllowed.j1 kj7 l0 l1 a2 a3 a4 bt407.1 bt407.2 true) else (if a3 ≥ (l0.length : Int) then (kinkeeplaw35_QuotaAllowed.j1 kj7 l0 l1 a2 a3 a4 bt407.1 bt407.2 true) else (if a4 < 0 then (kinkeeplaw35_QuotaAllowed.j1 kj7 l0 l1 a2 a3 a4 bt407.1 bt407.2 true) else (if a4 ≥ (l0.length : Int) then (kinkeeplaw35_QuotaAllowed.j1 kj7 l0 l1 a2 a3 a4 bt407.1 bt407.2 true) else (kinkeeplaw35_QuotaAllowed.j1 kj7 l0 l1 a2 a3 a4 bt407.1 bt407.2 (a3 == a4)))))))) else (kinkeeplaw35_QuotaAllowed.j1 kj7 l0 l1 a2 a3 a4 bt407.1 bt407.2 true))) else (kinkeeplaw35_QuotaAllowed.j1 kj7 l0 l1 a2 a3 a4 bt407.1 bt407.2 true)))) = some r := by rw [if_neg (show ¬ (false = true) by decide)] at H; exact H
          clear H
          have H := H1
          clear H1
          replace H := Option.bind_eq_some_iff.mp H
          obtain ⟨⟨t407, t408⟩, A120, H⟩ := H
          replace H : ((kinkeepref35_Valid.f kj7 l0).bind fun t409 => (if t409 = true then ((kinkeepref35_Quotas.f kj7 l0 l1).bind fun t410 => (if t410 = true then (if a2 < 0 then (kinkeeplaw35_QuotaAllowed.j1 kj7 l0 l1 a2 a3 a4 t407 t408 true) else (if a2 > 1099511627776 then (kinkeeplaw35_QuotaAllowed.j1 kj7 l0 l1 a2 a3 a4 t407 t408 true) else (if a3 < 0 then (kinkeeplaw35_QuotaAllowed.j1 kj7 l0 l1 a2 a3 a4 t407 t408 true) else (if a3 ≥ (l0.length : Int) then (kinkeeplaw35_QuotaAllowed.j1 kj7 l0 l1 a2 a3 a4 t407 t408 true) else (if a4 < 0 then (kinkeeplaw35_QuotaAllowed.j1 kj7 l0 l1 a2 a3 a4 t407 t408 true) else (if a4 ≥ (l0.length : Int) then (kinkeeplaw35_QuotaAllowed.j1 kj7 l0 l1 a2 a3 a4 t407 t408 true) else (kinkeeplaw35_QuotaAllowed.j1 kj7 l0 l1 a2 a3 a4 t407 t408 (a3 == a4)))))))) else (kinkeeplaw35_QuotaAllowed.j1 kj7 l0 l1 a2 a3 a4 t407 t408 true))) else (kinkeeplaw35_QuotaAllowed.j1 kj7 l0 l1 a2 a3 a4 t407 t408 true))) = some r := H
          have A12 := Aside0.mk A120
          clear A120
          have HC13 := Aside0.mk H
          clear H
          go_upto_region 7 with (first | ((with_reducible refine gate_callee (f := 22) rfl ?_); refine goesL_ (some 31) rfl rfl Try.func22 (by kernel_rfl) rfl #[.slice A0 l0.length c0, .slice A1 l1.length c1, .int .i64 a2, .int .i64 a3, .int .i64 a4] rfl (by (try simp only [List.map_toArray, List.map_cons, List.map_nil]); first | done | rfl | (simp only [List.length_drop, List.length_take]; rfl)) ?_; (with_reducible refine (quota_Allowed.calls kj7 _ _ l0 _ _ l1 a2 a3 a4 t407 t408 _ ?side1 ?side2 ?side3 ?side4 A12.out).mono ?_); (case side1 => repeat (first | exact (Kd.C_below HR0.out HB.out) | (with_reducible refine Kd.C_alloc ?_ _) | (with_reducible refine Kd.C_drewN ?_ _) | (with_reducible refine Kd.C_drew ?_))); (case side2 => exact HC0.out); (case side3 => repeat (first | exact (Kd.C_below HR1.out HB.out) | (with_reducible refine Kd.C_alloc ?_ _) | (with_reducible refine Kd.C_drewN ?_ _) | (with_reducible refine Kd.C_drew ?_))); (case side4 => exact HC1.out); rintro e w14 ⟨rfl, hb⟩; refine ⟨_, rfl, ?_⟩; have n0_ := Aside0.mk (below_step (by repeat (first | (with_reducible first | exact HB.out | apply below_alloc | apply pw_below_drewN | apply below_drew1) | exact HB.out)) hb); clear HB; have HB := n0_; clear n0_; (try clear hb); (try clear hb2); (try clear hk); (try clear hi)))
          (try simp only [Act.put, List.setIfInBounds_toArray, List.set_cons_zero, List.set_cons_succ])
          go_cut [75] (fun v75 wc => ∃ (kq : Nat) (x75_12 : Bool), v75 = .bool x75_12 ∧ Aside0 (kinkeeplaw35_QuotaAllowed.j1 kq l0 l1 a2 a3 a4 t407 t408 x75_12 = some r) ∧ Aside0 (kq ≤ kj7) ∧ Aside0 (Below w.heap.size w wc))
          case first =>
            have H := HC13.out
            clear HC13
            replace H := Option.bind_eq_some_iff.mp H
            obtain ⟨t409, A150, H⟩ := H
            replace H : (if t409 = true then ((kinkeepref35_Quotas.f kj7 l0 l1).bind fun t410 => (if t410 = true then (if a2 < 0 then (kinkeeplaw35_QuotaAllowed.j1 kj7 l0 l1 a2 a3 a4 t407 t408 true) else (if a2 > 1099511627776 then (kinkeeplaw35_QuotaAllowed.j1 kj7 l0 l1 a2 a3 a4 t407 t408 true) else (if a3 < 0 then (kinkeeplaw35_QuotaAllowed.j1 kj7 l0 l1 a2 a3 a4 t407 t408 true) else (if a3 ≥ (l0.length : Int) then (kinkeeplaw35_QuotaAllowed.j1 kj7 l0 l1 a2 a3 a4 t407 t408 true) else (if a4 < 0 then (kinkeeplaw35_QuotaAllowed.j1 kj7 l0 l1 a2 a3 a4 t407 t408 true) else (if a4 ≥ (l0.length : Int) then (kinkeeplaw35_QuotaAllowed.j1 kj7 l0 l1 a2 a3 a4 t407 t408 true) else (kinkeeplaw35_QuotaAllowed.j1 kj7 l0 l1 a2 a3 a4 t407 t408 (a3 == a4)))))))) else (kinkeeplaw35_QuotaAllowed.j1 kj7 l0 l1 a2 a3 a4 t407 t408 true))) else (kinkeeplaw35_QuotaAllowed.j1 kj7 l0 l1 a2 a3 a4 t407 t408 true)) = some r := H
            have A15 := Aside0.mk A150
            clear A150
            by_cases c16 : t409 = true
            · subst c16
              have H1 : ((kinkeepref35_Quotas.f kj7 l0 l1).bind fun t410 => (if t410 = true then (if a2 < 0 then (kinkeeplaw35_QuotaAllowed.j1 kj7 l0 l1 a2 a3 a4 t407 t408 true) else (if a2 > 1099511627776 then (kinkeeplaw35_QuotaAllowed.j1 kj7 l0 l1 a2 a3 a4 t407 t408 true) else (if a3 < 0 then (kinkeeplaw35_QuotaAllowed.j1 kj7 l0 l1 a2 a3 a4 t407 t408 true) else (if a3 ≥ (l0.length : Int) then (kinkeeplaw35_QuotaAllowed.j1 kj7 l0 l1 a2 a3 a4 t407 t408 true) else (if a4 < 0 then (kinkeeplaw35_QuotaAllowed.j1 kj7 l0 l1 a2 a3 a4 t407 t408 true) else (if a4 ≥ (l0.length : Int) then (kinkeeplaw35_QuotaAllowed.j1 kj7 l0 l1 a2 a3 a4 t407 t408 true) else (kinkeeplaw35_QuotaAllowed.j1 kj7 l0 l1 a2 a3 a4 t407 t408 (a3 == a4)))))))) else (kinkeeplaw35_QuotaAllowed.j1 kj7 l0 l1 a2 a3 a4 t407 t408 true))) = some r := by rw [if_pos rfl] at H; exact H
              clear H
              have H := H1
              clear H1
              replace H := Option.bind_eq_some_iff.mp H
              obtain ⟨t410, A170, H⟩ := H
              replace H : (if t410 = true then (if a2 < 0 then (kinkeeplaw35_QuotaAllowed.j1 kj7 l0 l1 a2 a3 a4 t407 t408 true) else (if a2 > 1099511627776 then (kinkeeplaw35_QuotaAllowed.j1 kj7 l0 l1 a2 a3 a4 t407 t408 true) else (if a3 < 0 then (kinkeeplaw35_QuotaAllowed.j1 kj7 l0 l1 a2 a3 a4 t407 t408 true) else (if a3 ≥ (l0.length : Int) then (kinkeeplaw35_QuotaAllowed.j1 kj7 l0 l1 a2 a3 a4 t407 t408 true) else (if a4 < 0 then (kinkeeplaw35_QuotaAllowed.j1 kj7 l0 l1 a2 a3 a4 t407 t408 true) else (if a4 ≥ (l0.length : Int) then (kinkeeplaw35_QuotaAllowed.j1 kj7 l0 l1 a2 a3 a4 t407 t408 true) else (kinkeeplaw35_QuotaAllowed.j1 kj7 l0 l1 a2 a3 a4 t407 t408 (a3 == a4)))))))) else (kinkeeplaw35_QuotaAllowed.j1 kj7 l0 l1 a2 a3 a4 t407 t408 true)) = some r := H
              have A17 := Aside0.mk A170
              clear A170
              by_cases c18 : t410 = true
              · subst c18
                have H1 : (if a2 < 0 then (kinkeeplaw35_QuotaAllowed.j1 kj7 l0 l1 a2 a3 a4 t407 t408 true) else (if a2 > 1099511627776 then (kinkeeplaw35_QuotaAllowed.j1 kj7 l0 l1 a2 a3 a4 t407 t408 true) else (if a3 < 0 then (kinkeeplaw35_QuotaAllowed.j1 kj7 l0 l1 a2 a3 a4 t407 t408 true) else (if a3 ≥ (l0.length : Int) then (kinkeeplaw35_QuotaAllowed.j1 kj7 l0 l1 a2 a3 a4 t407 t408 true) else (if a4 < 0 then (kinkeeplaw35_QuotaAllowed.j1 kj7 l0 l1 a2 a3 a4 t407 t408 true) else (if a4 ≥ (l0.length : Int) then (kinkeeplaw35_QuotaAllowed.j1 kj7 l0 l1 a2 a3 a4 t407 t408 true) else (kinkeeplaw35_QuotaAllowed.j1 kj7 l0 l1 a2 a3 a4 t407 t408 (a3 == a4)))))))) = some r := by rw [if_pos rfl] at H; exact H
                clear H
                have H := H1
                clear H1
                by_cases c19 : a2 < 0
                · rw [if_pos c19] at H
                  have c19b0 : decide (a2 < 0) = true := decide_eq_true c19
                  clear c19
                  (first | rw [c19b0] | (simp only [i64_w, i32_w]; rw [c19b0]) | skip)
                  have H' := Aside0.mk H
                  clear H
                  go_wp2_with (first | ((with_reducible refine gate_callee (f := 23) rfl ?_); refine goesL_ (some 37) rfl rfl Try.func23 (by kernel_rfl) rfl #[.slice A0 l0.length c0] rfl (by (try simp only [List.map_toArray, List.map_cons, List.map_nil]); first | done | rfl | (simp only [List.length_drop, List.length_take]; rfl)) ?_; (with_reducible refine (kinkeepref35_Valid.calls kj7 _ _ l0 true _ ?side1 ?side2 A15.out).mono ?_); (case side1 => repeat (first | exact (Kd.C_below HR0.out HB.out) | (with_reducible refine Kd.C_alloc ?_ _) | (with_reducible refine Kd.C_drewN ?_ _) | (with_reducible refine Kd.C_drew ?_))); (case side2 => exact HC0.out); rintro e w' ⟨rfl, ⟨nd, rfl⟩⟩; refine ⟨_, rfl, ?_⟩) | (go_at_call 24; (with_reducible refine (kinkeepref35_Quotas.calls kj7 _ _ l0 _ _ l1 true _ ?side1 ?side2 ?side3 ?side4 A17.out).mono ?_); (case side1 => repeat (first | exact (Kd.C_below HR0.out (by repeat (first | (with_reducible first | exact HB.out | apply below_alloc | apply pw_below_drewN | apply below_drew1) | exact HB.out))) | (with_reducible refine Kd.C_alloc ?_ _) | (with_reducible refine Kd.C_drewN ?_ _) | (with_reducible refine Kd.C_drew ?_))); (case side2 => exact HC0.out); (case side3 => repeat (first | exact (Kd.C_below HR1.out (by repeat (first | (with_reducible first | exact HB.out | apply below_alloc | apply pw_below_drewN | apply below_drew1) | exact HB.out))) | (with_reducible refine Kd.C_alloc ?_ _) | (with_reducible refine Kd.C_drewN ?_ _) | (with_reducible refine Kd.C_drew ?_))); (case side4 => exact HC1.out); rintro e w' ⟨rfl, ⟨nd, rfl⟩⟩))
                  go_meet
                  case rel => exact ⟨_, (true), (by first | rfl | (simp; done) | (simp [*]; done)), H', ⟨by have := HJ7.out; first | omega | exact Nat.le_refl _⟩, ⟨by repeat (first | (with_reducible first | exact HB.out | apply below_alloc | apply pw_below_drewN | apply below_drew1) | exact HB.out)⟩⟩
                · rw [if_neg c19] at H
                  have c19b0 : decide (a2 < 0) = false := decide_eq_false c19
                  clear c19
                  (first | rw [c19b0] | (simp only [i64_w, i32_w]; rw [c19b0]) | skip)
                  by_cases c20 : a2 > 1099511627776
                  · rw [if_pos c20] at H
                    have c20b0 : decide (1099511627776 < a2) = true := decide_eq_true c20
                    clear c20
                    have H' := Aside0.mk H
                    clear H
                    go_wp2_with (first | ((with_reducible refine gate_callee (f := 23) rfl ?_); refine goesL_ (some 37) rfl rfl Try.func23 (by kernel_rfl) rfl #[.slice A0 l0.length c0] rfl (by (try simp only [List.map_toArray, List.map_cons, List.map_nil]); first | done | rfl | (simp only [List.length_drop, List.length_take]; rfl)) ?_; (with_reducible refine (kinkeepref35_Valid.calls kj7 _ _ l0 true _ ?side1 ?side2 A15.out).mono ?_); (case side1 => repeat (first | exact (Kd.C_below HR0.out HB.out) | (with_reducible refine Kd.C_alloc ?_ _) | (with_reducible refine Kd.C_drewN ?_ _) | (with_reducible refine Kd.C_drew ?_))); (case side2 => exact HC0.out); rintro e w' ⟨rfl, ⟨nd, rfl⟩⟩; refine ⟨_, rfl, ?_⟩) | (go_at_call 24; (with_reducible refine (kinkeepref35_Quotas.calls kj7 _ _ l0 _ _ l1 true _ ?side1 ?side2 ?side3 ?side4 A17.out).mono ?_); (case side1 => repeat (first | exact (Kd.C_below HR0.out (by repeat (first | (with_reducible first | exact HB.out | apply below_alloc | apply pw_below_drewN | apply below_drew1) | exact HB.out))) | (with_reducible refine Kd.C_alloc ?_ _) | (with_reducible refine Kd.C_drewN ?_ _) | (with_reducible refine Kd.C_drew ?_))); (case side2 => exact HC0.out); (case side3 => repeat (first | exact (Kd.C_below HR1.out (by repeat (first | (with_reducible first | exact HB.out | apply below_alloc | apply pw_below_drewN | apply below_drew1) | exact HB.out))) | (with_reducible refine Kd.C_alloc ?_ _) | (with_reducible refine Kd.C_drewN ?_ _) | (with_reducible refine Kd.C_drew ?_))); (case side4 => exact HC1.out); rintro e w' ⟨rfl, ⟨nd, rfl⟩⟩))
                    go_meet
                    case rel => exact ⟨_, (true), (by first | rfl | (simp; done) | (simp [*]; done)), H', ⟨by have := HJ7.out; first | omega | exact Nat.le_refl _⟩, ⟨by repeat (first | (with_reducible first | exact HB.out | apply below_alloc | apply pw_below_drewN | apply below_drew1) | exact HB.out)⟩⟩
                  · rw [if_neg c20] at H
                    have c20b0 : decide (1099511627776 < a2) = false := decide_eq_false c20
                    clear c20
                    by_cases c21 : a3 < 0
                    · rw [if_pos c21] at H
                      have c21b0 : decide (a3 < 0) = true := decide_eq_true c21
                      clear c21
                      have H' := Aside0.mk H
                      clear H
                      go_wp2_with (first | ((with_reducible refine gate_callee (f := 23) rfl ?_); refine goesL_ (some 37) rfl rfl Try.func23 (by kernel_rfl) rfl #[.slice A0 l0.length c0] rfl (by (try simp only [List.map_toArray, List.map_cons, List.map_nil]); first | done | rfl | (simp only [List.length_drop, List.length_take]; rfl)) ?_; (with_reducible refine (kinkeepref35_Valid.calls kj7 _ _ l0 true _ ?side1 ?side2 A15.out).mono ?_); (case side1 => repeat (first | exact (Kd.C_below HR0.out HB.out) | (with_reducible refine Kd.C_alloc ?_ _) | (with_reducible refine Kd.C_drewN ?_ _) | (with_reducible refine Kd.C_drew ?_))); (case side2 => exact HC0.out); rintro e w' ⟨rfl, ⟨nd, rfl⟩⟩; refine ⟨_, rfl, ?_⟩) | (go_at_call 24; (with_reducible refine (kinkeepref35_Quotas.calls kj7 _ _ l0 _ _ l1 true _ ?side1 ?side2 ?side3 ?side4 A17.out).mono ?_); (case side1 => repeat (first | exact (Kd.C_below HR0.out (by repeat (first | (with_reducible first | exact HB.out | apply below_alloc | apply pw_below_drewN | apply below_drew1) | exact HB.out))) | (with_reducible refine Kd.C_alloc ?_ _) | (with_reducible refine Kd.C_drewN ?_ _) | (with_reducible refine Kd.C_drew ?_))); (case side2 => exact HC0.out); (case side3 => repeat (first | exact (Kd.C_below HR1.out (by repeat (first | (with_reducible first | exact HB.out | apply below_alloc | apply pw_below_drewN | apply below_drew1) | exact HB.out))) | (with_reducible refine Kd.C_alloc ?_ _) | (with_reducible refine Kd.C_drewN ?_ _) | (with_reducible refine Kd.C_drew ?_))); (case side4 => exact HC1.out); rintro e w' ⟨rfl, ⟨nd, rfl⟩⟩))
                      go_meet
                      case rel => exact ⟨_, (true), (by first | rfl | (simp; done) | (simp [*]; done)), H', ⟨by have := HJ7.out; first | omega | exact Nat.le_refl _⟩, ⟨by repeat (first | (with_reducible first | exact HB.out | apply below_alloc | apply pw_below_drewN | apply below_drew1) | exact HB.out)⟩⟩
                    · rw [if_neg c21] at H
                      have c21b0 : decide (a3 < 0) = false := decide_eq_false c21
                      clear c21
                      by_cases c22 : a3 ≥ (l0.length : Int)
                      · rw [if_pos c22] at H
                        have c22b0 : decide ((l0.length : Int) ≤ a3) = true := decide_eq_true c22
                        clear c22
                        have H' := Aside0.mk H
                        clear H
                        go_wp2_with (first | ((with_reducible refine gate_callee (f := 23) rfl ?_); refine goesL_ (some 37) rfl rfl Try.func23 (by kernel_rfl) rfl #[.slice A0 l0.length c0] rfl (by (try simp only [List.map_toArray, List.map_cons, List.map_nil]); first | done | rfl | (simp only [List.length_drop, List.length_take]; rfl)) ?_; (with_reducible refine (kinkeepref35_Valid.calls kj7 _ _ l0 true _ ?side1 ?side2 A15.out).mono ?_); (case side1 => repeat (first | exact (Kd.C_below HR0.out HB.out) | (with_reducible refine Kd.C_alloc ?_ _) | (with_reducible refine Kd.C_drewN ?_ _) | (with_reducible refine Kd.C_drew ?_))); (case side2 => exact HC0.out); rintro e w' ⟨rfl, ⟨nd, rfl⟩⟩; refine ⟨_, rfl, ?_⟩) | (go_at_call 24; (with_reducible refine (kinkeepref35_Quotas.calls kj7 _ _ l0 _ _ l1 true _ ?side1 ?side2 ?side3 ?side4 A17.out).mono ?_); (case side1 => repeat (first | exact (Kd.C_below HR0.out (by repeat (first | (with_reducible first | exact HB.out | apply below_alloc | apply pw_below_drewN | apply below_drew1) | exact HB.out))) | (with_reducible refine Kd.C_alloc ?_ _) | (with_reducible refine Kd.C_drewN ?_ _) | (with_reducible refine Kd.C_drew ?_))); (case side2 => exact HC0.out); (case side3 => repeat (first | exact (Kd.C_below HR1.out (by repeat (first | (with_reducible first | exact HB.out | apply below_alloc | apply pw_below_drewN | apply below_drew1) | exact HB.out))) | (with_reducible refine Kd.C_alloc ?_ _) | (with_reducible refine Kd.C_drewN ?_ _) | (with_reducible refine Kd.C_drew ?_))); (case side4 => exact HC1.out); rintro e w' ⟨rfl, ⟨nd, rfl⟩⟩))
                        go_meet
                        case rel => exact ⟨_, (true), (by first | rfl | (simp; done) | (simp [*]; done)), H', ⟨by have := HJ7.out; first | omega | exact Nat.le_refl _⟩, ⟨by repeat (first | (with_reducible first | exact HB.out | apply below_alloc | apply pw_below_drewN | apply below_drew1) | exact HB.out)⟩⟩
                      · rw [if_neg c22] at H
                        have c22b0 : decide ((l0.length : Int) ≤ a3) = false := decide_eq_false c22
                        clear c22
                        by_cases c23 : a4 < 0
                        · rw [if_pos c23] at H
                          have c23b0 : decide (a4 < 0) = true := decide_eq_true c23
                          clear c23
                          have H' := Aside0.mk H
                          clear H
                          go_wp2_with (first | ((with_reducible refine gate_callee (f := 23) rfl ?_); refine goesL_ (some 37) rfl rfl Try.func23 (by kernel_rfl) rfl #[.slice A0 l0.length c0] rfl (by (try simp only [List.map_toArray, List.map_cons, List.map_nil]); first | done | rfl | (simp only [List.length_drop, List.length_take]; rfl)) ?_; (with_reducible refine (kinkeepref35_Valid.calls kj7 _ _ l0 true _ ?side1 ?side2 A15.out).mono ?_); (case side1 => repeat (first | exact (Kd.C_below HR0.out HB.out) | (with_reducible refine Kd.C_alloc ?_ _) | (with_reducible refine Kd.C_drewN ?_ _) | (with_reducible refine Kd.C_drew ?_))); (case side2 => exact HC0.out); rintro e w' ⟨rfl, ⟨nd, rfl⟩⟩; refine ⟨_, rfl, ?_⟩) | (go_at_call 24; (with_reducible refine (kinkeepref35_Quotas.calls kj7 _ _ l0 _ _ l1 true _ ?side1 ?side2 ?side3 ?side4 A17.out).mono ?_); (case side1 => repeat (first | exact (Kd.C_below HR0.out (by repeat (first | (with_reducible first | exact HB.out | apply below_alloc | apply pw_below_drewN | apply below_drew1) | exact HB.out))) | (with_reducible refine Kd.C_alloc ?_ _) | (with_reducible refine Kd.C_drewN ?_ _) | (with_reducible refine Kd.C_drew ?_))); (case side2 => exact HC0.out); (case side3 => repeat (first | exact (Kd.C_below HR1.out (by repeat (first | (with_reducible first | exact HB.out | apply below_alloc | apply pw_below_drewN | apply below_drew1) | exact HB.out))) | (with_reducible refine Kd.C_alloc ?_ _) | (with_reducible refine Kd.C_drewN ?_ _) | (with_reducible refine Kd.C_drew ?_))); (case side4 => exact HC1.out); rintro e w' ⟨rfl, ⟨nd, rfl⟩⟩))
                          go_meet
                          case rel => exact ⟨_, (true), (by first | rfl | (simp; done) | (simp [*]; done)), H', ⟨by have := HJ7.out; first | omega | exact Nat.le_refl _⟩, ⟨by repeat (first | (with_reducible first | exact HB.out | apply below_alloc | apply pw_below_drewN | apply below_drew1) | exact HB.out)⟩⟩
                        · rw [if_neg c23] at H
                          have c23b0 : decide (a4 < 0) = false := decide_eq_false c23
                          clear c23
                          by_cases c24 : a4 ≥ (l0.length : Int)
                          · rw [if_pos c24] at H
                            have c24b0 : decide ((l0.length : Int) ≤ a4) = true := decide_eq_true c24
                            clear c24
                            have H' := Aside0.mk H
                            clear H
                            go_wp2_with (first | ((with_reducible refine gate_callee (f := 23) rfl ?_); refine goesL_ (some 37) rfl rfl Try.func23 (by kernel_rfl) rfl #[.slice A0 l0.length c0] rfl (by (try simp only [List.map_toArray, List.map_cons, List.map_nil]); first | done | rfl | (simp only [List.length_drop, List.length_take]; rfl)) ?_; (with_reducible refine (kinkeepref35_Valid.calls kj7 _ _ l0 true _ ?side1 ?side2 A15.out).mono ?_); (case side1 => repeat (first | exact (Kd.C_below HR0.out HB.out) | (with_reducible refine Kd.C_alloc ?_ _) | (with_reducible refine Kd.C_drewN ?_ _) | (with_reducible refine Kd.C_drew ?_))); (case side2 => exact HC0.out); rintro e w' ⟨rfl, ⟨nd, rfl⟩⟩; refine ⟨_, rfl, ?_⟩) | (go_at_call 24; (with_reducible refine (kinkeepref35_Quotas.calls kj7 _ _ l0 _ _ l1 true _ ?side1 ?side2 ?side3 ?side4 A17.out).mono ?_); (case side1 => repeat (first | exact (Kd.C_below HR0.out (by repeat (first | (with_reducible first | exact HB.out | apply below_alloc | apply pw_below_drewN | apply below_drew1) | exact HB.out))) | (with_reducible refine Kd.C_alloc ?_ _) | (with_reducible refine Kd.C_drewN ?_ _) | (with_reducible refine Kd.C_drew ?_))); (case side2 => exact HC0.out); (case side3 => repeat (first | exact (Kd.C_below HR1.out (by repeat (first | (with_reducible first | exact HB.out | apply below_alloc | apply pw_below_drewN | apply below_drew1) | exact HB.out))) | (with_reducible refine Kd.C_alloc ?_ _) | (with_reducible refine Kd.C_drewN ?_ _) | (with_reducible refine Kd.C_drew ?_))); (case side4 => exact HC1.out); rintro e w' ⟨rfl, ⟨nd, rfl⟩⟩))
                            go_meet
                            case rel => exact ⟨_, (true), (by first | rfl | (simp; done) | (simp [*]; done)), H', ⟨by have := HJ7.out; first | omega | exact Nat.le_refl _⟩, ⟨by repeat (first | (with_reducible first | exact HB.out | apply below_alloc | apply pw_below_drewN | apply below_drew1) | exact HB.out)⟩⟩
                          · rw [if_neg c24] at H
                            have c24b0 : decide ((l0.length : Int) ≤ a4) = false := decide_eq_false c24
                            clear c24
                            have H' := Aside0.mk H
                            clear H
                            go_wp2_with (first | ((with_reducible refine gate_callee (f := 23) rfl ?_); refine goesL_ (some 37) rfl rfl Try.func23 (by kernel_rfl) rfl #[.slice A0 l0.length c0] rfl (by (try simp only [List.map_toArray, List.map_cons, List.map_nil]); first | done | rfl | (simp only [List.length_drop, List.length_take]; rfl)) ?_; (with_reducible refine (kinkeepref35_Valid.calls kj7 _ _ l0 true _ ?side1 ?side2 A15.out).mono ?_); (case side1 => repeat (first | exact (Kd.C_below HR0.out HB.out) | (with_reducible refine Kd.C_alloc ?_ _) | (with_reducible refine Kd.C_drewN ?_ _) | (with_reducible refine Kd.C_drew ?_))); (case side2 => exact HC0.out); rintro e w' ⟨rfl, ⟨nd, rfl⟩⟩; refine ⟨_, rfl, ?_⟩) | (go_at_call 24; (with_reducible refine (kinkeepref35_Quotas.calls kj7 _ _ l0 _ _ l1 true _ ?side1 ?side2 ?side3 ?side4 A17.out).mono ?_); (case side1 => repeat (first | exact (Kd.C_below HR0.out (by repeat (first | (with_reducible first | exact HB.out | apply below_alloc | apply pw_below_drewN | apply below_drew1) | exact HB.out))) | (with_reducible refine Kd.C_alloc ?_ _) | (with_reducible refine Kd.C_drewN ?_ _) | (with_reducible refine Kd.C_drew ?_))); (case side2 => exact HC0.out); (case side3 => repeat (first | exact (Kd.C_below HR1.out (by repeat (first | (with_reducible first | exact HB.out | apply below_alloc | apply pw_below_drewN | apply below_drew1) | exact HB.out))) | (with_reducible refine Kd.C_alloc ?_ _) | (with_reducible refine Kd.C_drewN ?_ _) | (with_reducible refine Kd.C_drew ?_))); (case side4 => exact HC1.out); rintro e w' ⟨rfl, ⟨nd, rfl⟩⟩))
                            go_meet
                            case rel => exact ⟨_, ((a3 == a4)), (by first | rfl | (simp; done) | (simp [*]; done)), H', ⟨by have := HJ7.out; first | omega | exact Nat.le_refl _⟩, ⟨by repeat (first | (with_reducible first | exact HB.out | apply below_alloc | apply pw_below_drewN | apply below_drew1) | exact HB.out)⟩⟩
              · replace c18 := Bool.eq_false_iff.mpr c18
                subst c18
                have H1 : (kinkeeplaw35_QuotaAllowed.j1 kj7 l0 l1 a2 a3 a4 t407 t408 true) = some r := by rw [if_neg (show ¬ (false = true) by decide)] at H; exact H
                clear H
                have H := H1
                clear H1
                have H' := Aside0.mk H
                clear H
                go_wp2_with (first | ((with_reducible refine gate_callee (f := 23) rfl ?_); refine goesL_ (some 37) rfl rfl Try.func23 (by kernel_rfl) rfl #[.slice A0 l0.length c0] rfl (by (try simp only [List.map_toArray, List.map_cons, List.map_nil]); first | done | rfl | (simp only [List.length_drop, List.length_take]; rfl)) ?_; (with_reducible refine (kinkeepref35_Valid.calls kj7 _ _ l0 true _ ?side1 ?side2 A15.out).mono ?_); (case side1 => repeat (first | exact (Kd.C_below HR0.out HB.out) | (with_reducible refine Kd.C_alloc ?_ _) | (with_reducible refine Kd.C_drewN ?_ _) | (with_reducible refine Kd.C_drew ?_))); (case side2 => exact HC0.out); rintro e w' ⟨rfl, ⟨nd, rfl⟩⟩; refine ⟨_, rfl, ?_⟩) | (go_at_call 24; (with_reducible refine (kinkeepref35_Quotas.calls kj7 _ _ l0 _ _ l1 false _ ?side1 ?side2 ?side3 ?side4 A17.out).mono ?_); (case side1 => repeat (first | exact (Kd.C_below HR0.out (by repeat (first | (with_reducible first | exact HB.out | apply below_alloc | apply pw_below_drewN | apply below_drew1) | exact HB.out))) | (with_reducible refine Kd.C_alloc ?_ _) | (with_reducible refine Kd.C_drewN ?_ _) | (with_reducible refine Kd.C_drew ?_))); (case side2 => exact HC0.out); (case side3 => repeat (first | exact (Kd.C_below HR1.out (by repeat (first | (with_reducible first | exact HB.out | apply below_alloc | apply pw_below_drewN | apply below_drew1) | exact HB.out))) | (with_reducible refine Kd.C_alloc ?_ _) | (with_reducible refine Kd.C_drewN ?_ _) | (with_reducible refine Kd.C_drew ?_))); (case side4 => exact HC1.out); rintro e w' ⟨rfl, ⟨nd, rfl⟩⟩))
                go_meet
                case rel => exact ⟨_, (true), (by first | rfl | (simp; done) | (simp [*]; done)), H', ⟨by have := HJ7.out; first | omega | exact Nat.le_refl _⟩, ⟨by repeat (first | (with_reducible first | exact HB.out | apply below_alloc | apply pw_below_drewN | apply below_drew1) | exact HB.out)⟩⟩
            · replace c16 := Bool.eq_false_iff.mpr c16
              subst c16
              have H1 : (kinkeeplaw35_QuotaAllowed.j1 kj7 l0 l1 a2 a3 a4 t407 t408 true) = some r := by rw [if_neg (show ¬ (false = true) by decide)] at H; exact H
              clear H
              have H := H1
              clear H1
              have H' := Aside0.mk H
              clear H
              go_wp2_with (first | ((with_reducible refine gate_callee (f := 23) rfl ?_); refine goesL_ (some 37) rfl rfl Try.func23 (by kernel_rfl) rfl #[.slice A0 l0.length c0] rfl (by (try simp only [List.map_toArray, List.map_cons, List.map_nil]); first | done | rfl | (simp only [List.length_drop, List.length_take]; rfl)) ?_; (with_reducible refine (kinkeepref35_Valid.calls kj7 _ _ l0 false _ ?side1 ?side2 A15.out).mono ?_); (case side1 => repeat (first | exact (Kd.C_below HR0.out HB.out) | (with_reducible refine Kd.C_alloc ?_ _) | (with_reducible refine Kd.C_drewN ?_ _) | (with_reducible refine Kd.C_drew ?_))); (case side2 => exact HC0.out); rintro e w' ⟨rfl, ⟨nd, rfl⟩⟩; refine ⟨_, rfl, ?_⟩))
              go_meet
              case rel => exact ⟨_, (true), (by first | rfl | (simp; done) | (simp [*]; done)), H', ⟨by have := HJ7.out; first | omega | exact Nat.le_refl _⟩, ⟨by repeat (first | (with_reducible first | exact HB.out | apply below_alloc | apply pw_below_drewN | apply below_drew1) | exact HB.out)⟩⟩
          case rest =>
            clear HC13
            try clear c1
            try clear c2
            try clear p2
            try clear c6
            try clear c7
            try clear c10
            try clear c10b0
            try clear c10b1
            try clear c11
            try clear c14
            try clear c16
            try clear c18
            try clear c19
            try clear c19b0
            try clear c20
            try clear c20b0
            try clear c21
            try clear c21b0
            try clear c22
            try clear c22b0
            try clear c23
            try clear c23b0
            try clear c24
            try clear c24b0
            try clear p2
            obtain ⟨kq, x75_12, rfl, HA, HJ12, HB⟩ := hcut
            cases kq with
            | zero => exact absurd HA.out (by simp [kinkeeplaw35_QuotaAllowed.j1])
            | succ kj12 =>
              have H := HA.out
              clear HA
              simp only [kinkeeplaw35_QuotaAllowed.j1] at H
              by_cases c25 : x75_12 = true
              · subst c25
                have H1 : (if t407 = 0 then (some (t408 == 1)) else (some false)) = some r := by rw [if_pos rfl] at H; exact H
                clear H
                have H := H1
                clear H1
                by_cases c26 : t407 = 0
                · rw [if_pos c26] at H
                  have c26b0 : (t407 == 0) = true := beq_iff_eq.mpr c26
                  have c26b1 : (t407 != 0) = false := bne_eq_false_iff_eq.mpr c26
                  clear c26
                  obtain rfl := Option.some.inj H
                  go_wp2
                  go_ret
                  exact ⟨by first | rfl | (simp [errW_none, errW_some] <;> rfl) | (simp [*, errW_none, errW_some] <;> rfl), by repeat (first | (with_reducible first | exact HB.out | apply below_alloc | apply pw_below_drewN | apply below_drew1) | exact HB.out)⟩
                · rw [if_neg c26] at H
                  have c26b0 : (t407 == 0) = false := beq_eq_false_iff_ne.mpr c26
                  have c26b1 : (t407 != 0) = true := bne_iff_ne.mpr c26
                  obtain rfl := Option.some.inj H
                  go_wp2
                  go_ret
                  exact ⟨by first | rfl | (simp [errW_none, errW_some] <;> rfl) | (simp [*, errW_none, errW_some] <;> rfl), by repeat (first | (with_reducible first | exact HB.out | apply below_alloc | apply pw_below_drewN | apply below_drew1) | exact HB.out)⟩
              · replace c25 := Bool.eq_false_iff.mpr c25
                subst c25
                have H1 : (if 0 ≤ a3 then (if a3 < (l1.length : Int) then ((kinkeepref35_Held.f kj12 l0).bind fun t412 => (if a3 < (t412.length : Int) then ((kinkeepref35_Balance.f kj12 l0).bind fun t416 => (if 0 ≤ a4 then (if a4 < (t416.length : Int) then (if t407 = (mx 0 (mn (wrap64 ((rd l1 a3) - (rd t412 a3))) (wrap64 (a2 - (rd t416 a4))))) then (some (t408 == 0)) else (some false)) else (none)) else (none))) else (none))) else (none)) else (none)) = some r := by rw [if_neg (show ¬ (false = true) by decide)] at H; exact H
                clear H
                have H := H1
                clear H1
                by_cases c27 : 0 ≤ a3
                · rw [if_pos c27] at H
                  have c27b0 : decide (0 ≤ a3) = true := decide_eq_true c27
                  clear c27
                  by_cases c28 : a3 < (l1.length : Int)
                  · rw [if_pos c28] at H
                    have c28b0 : decide (a3 < (l1.length : Int)) = true := decide_eq_true c28
                    clear c28
                    replace H := Option.bind_eq_some_iff.mp H
                    obtain ⟨t412, A290, H⟩ := H
                    replace H : (if a3 < (t412.length : Int) then ((kinkeepref35_Balance.f kj12 l0).bind fun t416 => (if 0 ≤ a4 then (if a4 < (t416.length : Int) then (if t407 = (mx 0 (mn (wrap64 ((rd l1 a3) - (rd t412 a3))) (wrap64 (a2 - (rd t416 a4))))) then (some (t408 == 0)) else (some false)) else (none)) else (none))) else (none)) = some r := H
                    have A29 := Aside0.mk A290
                    clear A290
                    by_cases c30 : a3 < (t412.length : Int)
                    · rw [if_pos c30] at H
                      have c30b0 : decide (a3 < (t412.length : Int)) = true := decide_eq_true c30
                      clear c30
                      replace H := Option.bind_eq_some_iff.mp H
                      obtain ⟨t416, A310, H⟩ := H
                      replace H : (if 0 ≤ a4 then (if a4 < (t416.length : Int) then (if t407 = (mx 0 (mn (wrap64 ((rd l1 a3) - (rd t412 a3))) (wrap64 (a2 - (rd t416 a4))))) then (some (t408 == 0)) else (some false)) else (none)) else (none)) = some r := H
                      have A31 := Aside0.mk A310
                      clear A310
                      by_cases c32 : 0 ≤ a4
                      · rw [if_pos c32] at H
                        have c32b0 : decide (0 ≤ a4) = true := decide_eq_true c32
                        clear c32
                        by_cases c33 : a4 < (t416.length : Int)
                        · rw [if_pos c33] at H
                          have c33b0 : decide (a4 < (t416.length : Int)) = true := decide_eq_true c33
                          clear c33
                          obtain ⟨ji34, hji34⟩ : ∃ j_ : Int, (mn (wrap64 ((rd l1 a3) - (rd t412 a3))) (wrap64 (a2 - (rd t416 a4)))) = j_ := ⟨_, rfl⟩
                          replace H : (if t407 = (mx 0 (ji34)) then (some (t408 == 0)) else (some false)) = some r := by first | (rw [hji34] at H; exact H) | (simp only [hji34] at H ⊢; exact H)
                          (try rw [hji34] at A29)
                          (try rw [hji34] at A31)
                          have hji34_ : (if (wrap64 (a2 - (rd t416 a4))) < (wrap64 ((rd l1 a3) - (rd t412 a3))) then (wrap64 (a2 - (rd t416 a4))) else (wrap64 ((rd l1 a3) - (rd t412 a3)))) = ji34 := hji34
                          obtain ⟨ji35, hji35⟩ : ∃ j_ : Int, (mx 0 (ji34)) = j_ := ⟨_, rfl⟩
                          replace H : (if t407 = (ji35) then (some (t408 == 0)) else (some false)) = some r := by first | (rw [hji35] at H; exact H) | (simp only [hji35] at H ⊢; exact H)
                          (try rw [hji35] at A29)
                          (try rw [hji35] at A31)
                          have hji35_ : (if 0 < (ji34) then (ji34) else 0) = ji35 := hji35
                          try go_wp2
                          have p411 : 0 ≤ (a3 : Int) := of_decide_eq_true (by first | (with_reducible assumption) | assumption)
                          have q411 : a3 < (l1.length : Int) := of_decide_eq_true (by first | (with_reducible assumption) | assumption)
                          have q415 : a3 < (t412.length : Int) := of_decide_eq_true (by first | (with_reducible assumption) | assumption)
                          have p419 : 0 ≤ (a4 : Int) := of_decide_eq_true (by first | (with_reducible assumption) | assumption)
                          have q419 : a4 < (t416.length : Int) := of_decide_eq_true (by first | (with_reducible assumption) | assumption)
                          obtain ⟨ad411, e411, hw411⟩ := Kd.at_int HR1.out a3 p411 q411
                          cases e411
                          have HB37 := Aside0.mk (below_drew1 HB.out)
                          have hx411 := (HB37.out.cell (World.block_lt_of_cell? w _ hw411)).trans hw411
                          have wr1 : IntKind.i64.wrap (rd l1 a3 - rd t412 a3) = wrap64 (rd l1 a3 - rd t412 a3) := IntWalk.i64_left _
                          have wr2 : IntKind.i64.wrap (a2 - rd t416 a4) = wrap64 (a2 - rd t416 a4) := IntWalk.i64_left _
                          have jm : min (wrap64 (rd l1 a3 - rd t412 a3)) (wrap64 (a2 - rd t416 a4)) = ji34 := by rw [← hji34]; unfold mn; split <;> omega
                          go_cut [14] (fun v14 wc => v14 = .int .i64 ji34 ∧ Aside0 (Below w.heap.size w wc))
                          case first =>
                            go_region_with (first | (go_at_call 25; refine (kinkeepref35_Held.calls kj12 _ _ l0 t412 _ (Kd.C_below HR0.out HB37.out) HC0.out A29.out).mono ?_; rintro e w38 ⟨v413, rfl, ho0, hb⟩; obtain ⟨Ao39, co39, eo39⟩ := Kd.R_slice ho0; subst eo39; obtain ⟨ad415, e415, hx415⟩ := Kd.at_int (Kd.R_reads' ho0).2.2 a3 p411 q415; cases e415; have HB38 := Aside0.mk (below_step HB37.out hb); have hx412 := (HB38.out.cell (World.block_lt_of_cell? w _ hw411)).trans hw411; clear ho0 hb) | (go_at_call 26; refine (kinkeepref35_Balance.calls kj12 _ _ l0 t416 _ (Kd.C_below HR0.out HB38.out) HC0.out A31.out).mono ?_; rintro e w40 ⟨v417, rfl, ho1, hb1⟩; obtain ⟨Ao41, co41, eo41⟩ := Kd.R_slice ho1; subst eo41; obtain ⟨ad419, e419, hx419⟩ := Kd.at_int (Kd.R_reads' ho1).2.2 a4 p419 q419; cases e419; have HB40 := Aside0.mk (below_step HB38.out hb1); have hx413 := (HB40.out.cell (World.block_lt_of_cell? w _ hw411)).trans hw411; have hx416 := (hb1.cell (World.block_lt_of_cell? _ _ hx415)).trans hx415; clear ho1 hb1))
                            all_goals (go_wp2_with fail; go_meet; case rel => exact ⟨by first | rfl | (rw [wr1, wr2]; simp only [jm]; done) | (simp [wr1, wr2, hji34_]; done), by first | exact HB40 | exact ⟨below_drew1 HB40.out⟩⟩)
                          case rest =>
                            obtain ⟨rfl, HBc⟩ := hcut
                            clear HB HB37
                            have HB := HBc
                            by_cases c36 : t407 = (ji35)
                            · rw [if_pos c36] at H
                              have c36b0 : (t407 == (ji35)) = true := beq_iff_eq.mpr c36
                              have c36b1 : (t407 != (ji35)) = false := bne_eq_false_iff_eq.mpr c36
                              clear c36
                              obtain rfl := Option.some.inj H
                              go_wp2_with fail
                              go_ret
                              exact ⟨by first | rfl | (simp [hji35_]; done), by repeat (first | (with_reducible first | exact HB.out | apply below_alloc | apply pw_below_drewN | apply below_drew1) | exact HB.out)⟩
                            · rw [if_neg c36] at H
                              have c36b0 : (t407 == (ji35)) = false := beq_eq_false_iff_ne.mpr c36
                              have c36b1 : (t407 != (ji35)) = true := bne_iff_ne.mpr c36
                              clear c36
                              obtain rfl := Option.some.inj H
                              go_wp2_with fail
                              go_ret
                              exact ⟨by first | rfl | (simp [hji35_]; done), by repeat (first | (with_reducible first | exact HB.out | apply below_alloc | apply pw_below_drewN | apply below_drew1) | exact HB.out)⟩
                        · rw [if_neg c33] at H
                          exact absurd H (by simp)
                      · rw [if_neg c32] at H
                        exact absurd H (by simp)
                    · rw [if_neg c30] at H
                      exact absurd H (by simp)
                  · rw [if_neg c28] at H
                    exact absurd H (by simp)
                · rw [if_neg c27] at H
                  exact absurd H (by simp)
  · replace c7 := Bool.eq_false_iff.mpr c7
    subst c7
    have H1 : (some false) = some r := by rw [if_neg (show ¬ (false = true) by decide)] at H; exact H
    clear H
    have H := H1
    clear H1
    obtain rfl := Option.some.inj H
    go_enter Try.func6, Try.ntmps6
    go_wp2_with (first | ((with_reducible refine gate_callee (f := 14) rfl ?_); refine goesL_ (some 15) rfl rfl Try.func14 (by kernel_rfl) rfl #[] rfl (by (try simp only [List.map_toArray, List.map_cons, List.map_nil]); first | done | rfl | (simp only [List.length_drop, List.length_take]; rfl)) ?_; (with_reducible refine (kinkeeplaw35_awake.calls k  false _ A6.out).mono ?_); rintro e w47 ⟨rfl, hb⟩; refine ⟨_, rfl, ?_⟩; have n0_ := Aside0.mk (below_step (by repeat (first | (with_reducible first | exact HB.out | apply below_alloc | apply pw_below_drewN | apply below_drew1) | exact HB.out)) hb); clear HB; have HB := n0_; clear n0_; (try clear hb); (try clear hb2); (try clear hk); (try clear hi)))
    go_ret
    exact ⟨by first | rfl | (simp [errW_none, errW_some] <;> rfl) | (simp [*, errW_none, errW_some] <;> rfl), by repeat (first | (with_reducible first | exact HB.out | apply below_alloc | apply pw_below_drewN | apply below_drew1) | exact HB.out)⟩

end Go.Proofs.Ytdljbmgknhbceaa.Q
