-- Printed by this seat's own driver (tools/mkprint.sh) out of the kit's print.py over stub bodies; parts are then proved by hand.
import Derived.Test.YtdljbmgknhbceaaQx0
import Derived.Test.YtdljbmgknhbceaaQr
import Derived.Test.YtdljbmgknhbceaaQx60
namespace Go.Proofs.Ytdljbmgknhbceaa.Q
open Go.RowKit Go.Proofs.YtdljbmgknhbceaaW.PrintWords Go.Proofs.YtdljbmgknhbceaaW.PrintLast Go.Proofs.YtdljbmgknhbceaaW.PrintMore
attribute [local go_sem] max2_int min2_int max_two min_two max_three min_three max_four min_four   -- for this text's walks alone
set_option linter.unusedVariables false
set_option linter.unusedSimpArgs false

/-! ### kinkeepref35_Apply: function 35 -/
mutual
def kinkeepref35_Apply.l0 : Nat → List (List Int) → List (S24) → Int → Option ((List (List Int)) × Int)
  | 0, _, _, _ => none
  | k + 1, x0, x1, x6 => if x6 < (x1.length : Int) then (if 0 ≤ x6 then ((kinkeepref35_Moved.f (x0.length : Int) ((rd_T24 x1 x6).f0) ((rd_T24 x1 x6).f1) ((rd_T24 x1 x6).f2) ((rd_T24 x1 x6).f3)).bind fun t708 => (if t708 = true then (kinkeepref35_Apply.l0 k x0 x1 (wrap64 (x6 + 1))) else (some (([] : List (List Int)), 1)))) else (none)) else ((kinkeepref35_Clone.f k x0).bind fun t709 => (kinkeepref35_Apply.l1 k x1 t709 0))
def kinkeepref35_Apply.l1 : Nat → List (S24) → List (List Int) → Int → Option ((List (List Int)) × Int)
  | 0, _, _, _ => none
  | k + 1, x1, x7, x8 => if x8 < (x1.length : Int) then (if 0 ≤ x8 then (if 0 ≤ ((rd_T24 x1 x8).f0) then (if ((rd_T24 x1 x8).f0) < (x7.length : Int) then (if 0 ≤ ((rd_T24 x1 x8).f2) then (if ((rd_T24 x1 x8).f2) < ((rd_L1 x7 ((rd_T24 x1 x8).f0)).length : Int) then (if (rd (rd_L1 x7 ((rd_T24 x1 x8).f0)) ((rd_T24 x1 x8).f2)) < ((rd_T24 x1 x8).f3) then (some (([] : List (List Int)), 6)) else (if 0 ≤ ((rd_T24 x1 x8).f1) then (if ((rd_T24 x1 x8).f1) < (x7.length : Int) then (if ((rd_T24 x1 x8).f2) < ((rd_L1 x7 ((rd_T24 x1 x8).f1)).length : Int) then (if (wrap64 ((rd (rd_L1 x7 ((rd_T24 x1 x8).f1)) ((rd_T24 x1 x8).f2)) + ((rd_T24 x1 x8).f3))) > 1099511627776 then (some (([] : List (List Int)), 2)) else ((some (x7.set (((rd_T24 x1 x8).f0) : Int).toNat ((rd_L1 x7 ((rd_T24 x1 x8).f0)).set (((rd_T24 x1 x8).f2) : Int).toNat (wrap64 ((rd (rd_L1 x7 ((rd_T24 x1 x8).f0)) ((rd_T24 x1 x8).f2)) - ((rd_T24 x1 x8).f3)))) : List (List Int))).bind fun y722 => (if ((rd_T24 x1 x8).f2) < ((rd_L1 y722 ((rd_T24 x1 x8).f1)).length : Int) then (kinkeepref35_Apply.l1 k x1 (y722.set (((rd_T24 x1 x8).f1) : Int).toNat ((rd_L1 y722 ((rd_T24 x1 x8).f1)).set (((rd_T24 x1 x8).f2) : Int).toNat (wrap64 ((rd (rd_L1 y722 ((rd_T24 x1 x8).f1)) ((rd_T24 x1 x8).f2)) + ((rd_T24 x1 x8).f3))))) (wrap64 (x8 + 1))) else (none)))) else (none)) else (none)) else (none))) else (none)) else (none)) else (none)) else (none)) else (none)) else (some (x7, 0))
end
def kinkeepref35_Apply.f (k : Nat) (l0 : List (List Int)) (l1 : List (S24)) : Option ((List (List Int)) × Int) := (kinkeepref35_Valid.f k l0).bind fun t706 => (if t706 = true then (kinkeepref35_Apply.l0 k l0 l1 0) else (some (([] : List (List Int)), 1)))
theorem kinkeepref35_Apply.mono_l : ∀ k, (∀ y0 y1 y2, LeO (kinkeepref35_Apply.l0 k y0 y1 y2) (kinkeepref35_Apply.l0 (k + 1) y0 y1 y2)) ∧ (∀ y0 y1 y2, LeO (kinkeepref35_Apply.l1 k y0 y1 y2) (kinkeepref35_Apply.l1 (k + 1) y0 y1 y2))
  | 0 => ⟨fun _ _ _ r h => by simp [kinkeepref35_Apply.l0] at h, fun _ _ _ r h => by simp [kinkeepref35_Apply.l1] at h⟩
  | k + 1 => by
    obtain ⟨ih0, ih1⟩ := kinkeepref35_Apply.mono_l k
    refine ⟨?_, ?_⟩
    · intro y0 y1 y2
      unfold kinkeepref35_Apply.l0
      repeat' first
      | (with_reducible exact ih0 _ _ _)
      | (with_reducible exact ih1 _ _ _)
      | (with_reducible exact kinkeepref35_Clone.mono _ _)
      | (with_reducible exact kinkeepref35_Valid.mono _ _)
      | (with_reducible exact LeO.refl _)
      | (with_reducible exact LeO.none _)
      | (with_reducible refine LeO.ite ?_ ?_)
      | (with_reducible refine LeO.bind ?_ (fun _ => ?_))
      | exact ih0 _ _ _
      | exact ih1 _ _ _
      | exact kinkeepref35_Clone.mono _ _
      | exact kinkeepref35_Valid.mono _ _
      | exact LeO.none _
      | refine LeO.ite ?_ ?_
      | refine LeO.bind ?_ (fun _ => ?_)
    · intro y0 y1 y2
      unfold kinkeepref35_Apply.l1
      repeat' first
      | (with_reducible exact ih0 _ _ _)
      | (with_reducible exact ih1 _ _ _)
      | (with_reducible exact kinkeepref35_Clone.mono _ _)
      | (with_reducible exact kinkeepref35_Valid.mono _ _)
      | (with_reducible exact LeO.refl _)
      | (with_reducible exact LeO.none _)
      | (with_reducible refine LeO.ite ?_ ?_)
      | (with_reducible refine LeO.bind ?_ (fun _ => ?_))
      | exact ih0 _ _ _
      | exact ih1 _ _ _
      | exact kinkeepref35_Clone.mono _ _
      | exact kinkeepref35_Valid.mono _ _
      | exact LeO.none _
      | refine LeO.ite ?_ ?_
      | refine LeO.bind ?_ (fun _ => ?_)
theorem kinkeepref35_Apply.mono : ∀ a0 a1 k, LeO (kinkeepref35_Apply.f k a0 a1) (kinkeepref35_Apply.f (k + 1) a0 a1) := by
  intro a0 a1 k
  obtain ⟨ih0, ih1⟩ := kinkeepref35_Apply.mono_l k
  unfold kinkeepref35_Apply.f
  repeat' first
      | (with_reducible exact ih0 _ _ _)
      | (with_reducible exact ih1 _ _ _)
      | (with_reducible exact kinkeepref35_Clone.mono _ _)
      | (with_reducible exact kinkeepref35_Valid.mono _ _)
      | (with_reducible exact LeO.refl _)
      | (with_reducible exact LeO.none _)
      | (with_reducible refine LeO.ite ?_ ?_)
      | (with_reducible refine LeO.bind ?_ (fun _ => ?_))
      | exact ih0 _ _ _
      | exact ih1 _ _ _
      | exact kinkeepref35_Clone.mono _ _
      | exact kinkeepref35_Valid.mono _ _
      | exact LeO.none _
      | refine LeO.ite ?_ ?_
      | refine LeO.bind ?_ (fun _ => ?_)
def kinkeepref35_Apply.T13 : Bool × List (List Nat × List Nat) := (true, [([], []), ([], []), ([1], [1]), ([0, 2], [0, 2]), ([3], [3]), ([], []), ([5], [5]), ([4, 6], [4, 6]), ([7], [7]), ([], []), ([9], [9]), ([8, 10], [8, 10])])
def kinkeepref35_Apply.B13 : List Nat := [0, 0, 2, 7, 15, 0, 32, 127, 255, 0, 512, 2047]
theorem kinkeepref35_Apply.tab13 : rtab .any (opsOf Try.f35 13) = kinkeepref35_Apply.T13 := by kernel_rfl
theorem kinkeepref35_Apply.bits13 : waitsOk kinkeepref35_Apply.T13.2 kinkeepref35_Apply.B13 = true := by kernel_rfl
def kinkeepref35_Apply.T15 : Bool × List (List Nat × List Nat) := (true, [([], []), ([], []), ([1], [1]), ([0, 2], [0, 2]), ([3], [3]), ([], []), ([5], [5]), ([4, 6], [4, 6]), ([7], [7]), ([], []), ([9], [9]), ([8, 10], [8, 10]), ([11], [11])])
def kinkeepref35_Apply.B15 : List Nat := [0, 0, 2, 7, 15, 0, 32, 127, 255, 0, 512, 2047, 4095]
theorem kinkeepref35_Apply.tab15 : rtab .any (opsOf Try.f35 15) = kinkeepref35_Apply.T15 := by kernel_rfl
theorem kinkeepref35_Apply.bits15 : waitsOk kinkeepref35_Apply.T15.2 kinkeepref35_Apply.B15 = true := by kernel_rfl
def kinkeepref35_Apply.T17 : Bool × List (List Nat × List Nat) := (true, [([], []), ([], []), ([1], [1]), ([0, 2], [0, 2]), ([3], [3]), ([], []), ([5], [5]), ([4, 6], [4, 6]), ([7], [7]), ([], []), ([9], [9]), ([8, 10], [8, 10]), ([4, 6, 0, 1, 2, 3, 4, 5, 6, 7, 8, 9, 10, 11], [4, 6]), ([12, 11, 0, 1, 2, 3, 4, 5, 6, 7, 8, 9, 10, 11], [11, 12])])
def kinkeepref35_Apply.B17 : List Nat := [0, 0, 2, 7, 15, 0, 32, 127, 255, 0, 512, 2047, 4095, 8191]
theorem kinkeepref35_Apply.tab17 : rtab .any (opsOf Try.f35 17) = kinkeepref35_Apply.T17 := by kernel_rfl
theorem kinkeepref35_Apply.bits17 : waitsOk kinkeepref35_Apply.T17.2 kinkeepref35_Apply.B17 = true := by kernel_rfl
def kinkeepref35_Apply.T18 : Bool × List (List Nat × List Nat) := (true, [([], []), ([], []), ([1], [1]), ([0, 2], [0, 2]), ([3], [3]), ([], []), ([5], [5]), ([4, 6], [4, 6]), ([7], [7]), ([], []), ([9], [9]), ([8, 10], [8, 10]), ([4, 6, 0, 1, 2, 3, 4, 5, 6, 7, 8, 9, 10, 11], [4, 6]), ([12, 11, 0, 1, 2, 3, 4, 5, 6, 7, 8, 9, 10, 11], [11, 12])])
def kinkeepref35_Apply.B18 : List Nat := [0, 0, 2, 7, 15, 0, 32, 127, 255, 0, 512, 2047, 4095, 8191]
theorem kinkeepref35_Apply.tab18 : rtab .any (opsOf Try.f35 18) = kinkeepref35_Apply.T18 := by kernel_rfl
theorem kinkeepref35_Apply.bits18 : waitsOk kinkeepref35_Apply.T18.2 kinkeepref35_Apply.B18 = true := by kernel_rfl
set_option maxHeartbeats 8000000 in
set_option maxRecDepth 100000 in
theorem kinkeepref35_Apply.calls (k : Nat) (A0 : Option Addr) (c0 : Nat) (l0 : List (List Int)) (A1 : Option Addr) (c1 : Nat) (l1 : List (S24)) (r1 : List (List Int)) (r2 : Int) (w : World) (hr0 : Kd.C (Kd.slice 3 (Kd.int .i64)) w A0 l0.length l0) (hc0 : l0.length ≤ c0) (hr1 : Kd.C k24 w A1 l1.length l1) (hc1 : l1.length ≤ c1) (h : kinkeepref35_Apply.f k l0 l1 = some (r1, r2)) :
    Calls Try.prog 35 #[.slice A0 l0.length c0, .slice A1 l1.length c1] w fun e w' => ∃ v0_ : Value, e = .returned (.tuple #[v0_, .int .i64 r2]) ∧ Kd.S (Kd.slice 3 (Kd.int .i64)) 31 w' w.heap.size (fun _ => True) v0_ r1 ∧ Below w.heap.size w w' := by
  have hu24 := Try.underlying24
  have HR0 := Aside0.mk hr0
  have HC0 := Aside0.mk hc0
  clear hr0 hc0
  have HR1 := Aside0.mk hr1
  have HC1 := Aside0.mk hc1
  clear hr1 hc1
  have HB := Aside0.mk (Below.refl w.heap.size w)
  have H : ((kinkeepref35_Valid.f k l0).bind fun t706 => (if t706 = true then (kinkeepref35_Apply.l0 k l0 l1 0) else (some (([] : List (List Int)), 1)))) = some (r1, r2) := h
  clear h
  replace H := Option.bind_eq_some_iff.mp H
  obtain ⟨t706, A30, H⟩ := H
  replace H : (if t706 = true then (kinkeepref35_Apply.l0 k l0 l1 0) else (some (([] : List (List Int)), 1))) = some (r1, r2) := H
  have A3 := Aside0.mk A30
  clear A30
  by_cases c4 : t706 = true
  · subst c4
    have H1 : (kinkeepref35_Apply.l0 k l0 l1 0) = some (r1, r2) := by rw [if_pos rfl] at H; exact H
    clear H
    have H := H1
    clear H1
    have H' := Aside0.mk H
    clear H
    go_enter Try.func35, Try.ntmps35
    go_wp2_with (first | ((with_reducible refine gate_callee (f := 23) rfl ?_); refine goesL_ (some 11) rfl rfl Try.func23 (by kernel_rfl) rfl #[.slice A0 l0.length c0] rfl (by (try simp only [List.map_toArray, List.map_cons, List.map_nil]); first | done | rfl | (simp only [List.length_drop, List.length_take]; rfl)) ?_; (with_reducible refine (kinkeepref35_Valid.calls k _ _ l0 true _ ?side1 ?side2 A3.out).mono ?_); (case side1 => repeat (first | exact HR0.out | (with_reducible refine Kd.C_alloc ?_ _) | (with_reducible refine Kd.C_drewN ?_ _) | (with_reducible refine Kd.C_drew ?_))); (case side2 => exact HC0.out); rintro e w' ⟨rfl, ⟨nd, rfl⟩⟩; refine ⟨_, rfl, ?_⟩))
    go_loopg [6] k (fun kq v6 w' => ∃ (x6_1 : Int), v6 = .int .i64 x6_1 ∧ Aside0 (kinkeepref35_Apply.l0 kq l0 l1 x6_1 = some (r1, r2)) ∧ Aside0 (kq ≤ k) ∧ Aside0 (Below w.heap.size w w'))
    case atStart => exact ⟨(0), (by first | rfl | (simp; done) | (simp [*]; done)), H', ⟨Nat.le_refl _⟩, ⟨by repeat (first | (with_reducible first | exact HB.out | apply below_alloc | apply pw_below_drewN | apply below_drew1) | exact HB.out)⟩⟩
    case round =>
      clear H'
      try clear c1
      try clear c2
      try clear p2
      try clear c3
      try clear c4
      obtain ⟨x6_1, rfl, HA, HK1, HB⟩ := hrel
      cases gk with
      | zero => exact absurd HA.out (by simp [kinkeepref35_Apply.l0])
      | succ k1 =>
        have H := HA.out
        clear HA
        simp only [kinkeepref35_Apply.l0] at H
        by_cases c5 : x6_1 < (l1.length : Int)
        · rw [if_pos c5] at H
          have c5b0 : decide (x6_1 < (l1.length : Int)) = true := decide_eq_true c5
          clear c5
          by_cases c6 : 0 ≤ x6_1
          · rw [if_pos c6] at H
            have c6b0 : decide (0 ≤ x6_1) = true := decide_eq_true c6
            clear c6
            replace H := Option.bind_eq_some_iff.mp H
            obtain ⟨t708, A70, H⟩ := H
            replace H : (if t708 = true then (kinkeepref35_Apply.l0 k1 l0 l1 (wrap64 (x6_1 + 1))) else (some (([] : List (List Int)), 1))) = some (r1, r2) := H
            have A7 := Aside0.mk A70
            clear A70
            by_cases c8 : t708 = true
            · subst c8
              have H1 : (kinkeepref35_Apply.l0 k1 l0 l1 (wrap64 (x6_1 + 1))) = some (r1, r2) := by rw [if_pos rfl] at H; exact H
              clear H
              have H := H1
              clear H1
              have H' := Aside0.mk H
              clear H
              have p707 : 0 ≤ (x6_1 : Int) := of_decide_eq_true (by first | (with_reducible assumption) | assumption)
              have q707 : x6_1 < (l1.length : Int) := of_decide_eq_true (by first | (with_reducible assumption) | assumption)
              obtain ⟨ad707, e707, hx707_0, hx707_1, hx707_2, hx707_3⟩ := at_T24 HR1.out x6_1 p707 q707
              cases e707
              replace hx707_0 := (HB.out.cell (World.block_lt_of_cell? w _ hx707_0)).trans hx707_0
              replace hx707_1 := (HB.out.cell (World.block_lt_of_cell? w _ hx707_1)).trans hx707_1
              replace hx707_2 := (HB.out.cell (World.block_lt_of_cell? w _ hx707_2)).trans hx707_2
              replace hx707_3 := (HB.out.cell (World.block_lt_of_cell? w _ hx707_3)).trans hx707_3
              replace p707 := eq_true p707
              replace q707 := eq_true q707
              go_wp2_with (first | ((with_reducible refine gate_callee (f := 59) rfl ?_); refine goesL_ (some 25) rfl rfl Try.func59 (by kernel_rfl) rfl #[.int .i64 (l0.length : Int), .agg #[.int .i64 ((rd_T24 l1 x6_1).f0), .int .i64 ((rd_T24 l1 x6_1).f1), .int .i64 ((rd_T24 l1 x6_1).f2), .int .i64 ((rd_T24 l1 x6_1).f3)]] rfl (by (try simp only [List.map_toArray, List.map_cons, List.map_nil]); first | done | rfl | (simp only [List.length_drop, List.length_take]; rfl)) ?_; (with_reducible refine (kinkeepref35_Moved.calls (l0.length : Int) ((rd_T24 l1 x6_1).f0) ((rd_T24 l1 x6_1).f1) ((rd_T24 l1 x6_1).f2) ((rd_T24 l1 x6_1).f3) true _ A7.out).mono ?_); rintro e w9 ⟨rfl, hb⟩; refine ⟨_, rfl, ?_⟩; have n0_ := Aside0.mk (below_step (by repeat (first | (with_reducible first | exact HB.out | apply below_alloc | apply pw_below_drewN | apply below_drew1) | exact HB.out)) hb); clear HB; have HB := n0_; clear n0_; (try clear hb); (try clear hb2); (try clear hk); (try clear hi)))
              go_roundg k1
              case measure => have := HK1.out; omega
              case rel => exact ⟨(wrap64 (x6_1 + 1)), (by first | rfl | (simp; done) | (simp [*]; done)), H', ⟨by have := HK1.out; omega⟩, ⟨by repeat (first | (with_reducible first | exact HB.out | apply below_alloc | apply pw_below_drewN | apply below_drew1) | exact HB.out)⟩⟩
            · replace c8 := Bool.eq_false_iff.mpr c8
              subst c8
              have H1 : (some (([] : List (List Int)), 1)) = some (r1, r2) := by rw [if_neg (show ¬ (false = true) by decide)] at H; exact H
              clear H
              have H := H1
              clear H1
              simp only [Option.some.injEq, Prod.mk.injEq] at H
              obtain ⟨rfl, rfl⟩ := H
              have p707 : 0 ≤ (x6_1 : Int) := of_decide_eq_true (by first | (with_reducible assumption) | assumption)
              have q707 : x6_1 < (l1.length : Int) := of_decide_eq_true (by first | (with_reducible assumption) | assumption)
              obtain ⟨ad707, e707, hx707_0, hx707_1, hx707_2, hx707_3⟩ := at_T24 HR1.out x6_1 p707 q707
              cases e707
              replace hx707_0 := (HB.out.cell (World.block_lt_of_cell? w _ hx707_0)).trans hx707_0
              replace hx707_1 := (HB.out.cell (World.block_lt_of_cell? w _ hx707_1)).trans hx707_1
              replace hx707_2 := (HB.out.cell (World.block_lt_of_cell? w _ hx707_2)).trans hx707_2
              replace hx707_3 := (HB.out.cell (World.block_lt_of_cell? w _ hx707_3)).trans hx707_3
              replace p707 := eq_true p707
              replace q707 := eq_true q707
              go_wp2_with (first | ((with_reducible refine gate_callee (f := 59) rfl ?_); refine goesL_ (some 25) rfl rfl Try.func59 (by kernel_rfl) rfl #[.int .i64 (l0.length : Int), .agg #[.int .i64 ((rd_T24 l1 x6_1).f0), .int .i64 ((rd_T24 l1 x6_1).f1), .int .i64 ((rd_T24 l1 x6_1).f2), .int .i64 ((rd_T24 l1 x6_1).f3)]] rfl (by (try simp only [List.map_toArray, List.map_cons, List.map_nil]); first | done | rfl | (simp only [List.length_drop, List.length_take]; rfl)) ?_; (with_reducible refine (kinkeepref35_Moved.calls (l0.length : Int) ((rd_T24 l1 x6_1).f0) ((rd_T24 l1 x6_1).f1) ((rd_T24 l1 x6_1).f2) ((rd_T24 l1 x6_1).f3) false _ A7.out).mono ?_); rintro e w10 ⟨rfl, hb⟩; refine ⟨_, rfl, ?_⟩; have n0_ := Aside0.mk (below_step (by repeat (first | (with_reducible first | exact HB.out | apply below_alloc | apply pw_below_drewN | apply below_drew1) | exact HB.out)) hb); clear HB; have HB := n0_; clear n0_; (try clear hb); (try clear hb2); (try clear hk); (try clear hi)))
              go_ret2
              exact ⟨_, by first | rfl | (simp [errW_none, errW_some] <;> rfl) | (simp [*, errW_none, errW_some] <;> rfl), by first | exact Kd.S_nil _ _ _ _ _ | exact Kd.N_nil _ _ _ _ _ | exact Kd.V_nil _ _ _ _ _ | exact Kd.Q_nil _ _ _ _ _ | exact Kd.R_nil _ _ _ _ _, by repeat (first | (with_reducible first | exact HB.out | apply below_alloc | apply pw_below_drewN | apply below_drew1) | exact HB.out)⟩
          · rw [if_neg c6] at H
            exact absurd H (by simp)
        · rw [if_neg c5] at H
          have c5b0 : decide (x6_1 < (l1.length : Int)) = false := decide_eq_false c5
          clear c5
          replace H := Option.bind_eq_some_iff.mp H
          obtain ⟨t709, A110, H⟩ := H
          replace H : (kinkeepref35_Apply.l1 k1 l1 t709 0) = some (r1, r2) := H
          have A11 := Aside0.mk A110
          clear A110
          have H' := Aside0.mk H
          clear H
          go_wp2_with (first | ((with_reducible refine gate_callee (f := 32) rfl ?_); refine goesL_ (some 28) rfl rfl Try.func32 (by kernel_rfl) rfl #[.slice A0 l0.length c0] rfl (by (try simp only [List.map_toArray, List.map_cons, List.map_nil]); first | done | rfl | (simp only [List.length_drop, List.length_take]; rfl)) ?_; (with_reducible refine (kinkeepref35_Clone.calls k1 _ _ l0 t709 _ ?side1 ?side2 A11.out).mono ?_); (case side1 => repeat (first | exact (Kd.C_below HR0.out HB.out) | (with_reducible refine Kd.C_alloc ?_ _) | (with_reducible refine Kd.C_drewN ?_ _) | (with_reducible refine Kd.C_drew ?_))); (case side2 => exact HC0.out); rintro e w12 ⟨v710, rfl, ho0, hb⟩; refine ⟨_, rfl, ?_⟩; have n0_ := Aside0.mk (Kd.S_lower ho0 (below_size (by repeat (first | (with_reducible first | exact HB.out | apply below_alloc | apply pw_below_drewN | apply below_drew1) | exact HB.out)))); have n1_ := Aside0.mk (below_step (by repeat (first | (with_reducible first | exact HB.out | apply below_alloc | apply pw_below_drewN | apply below_drew1) | exact HB.out)) hb); clear HB; have HO711 := n0_; have HB := n1_; clear n0_ n1_; (try clear hb); (try clear hb2); (try clear hk); (try clear hi); (try clear ho0)))
          go_loopg [8] k1 (fun kq v8 w' => ∃ (x7_2 : List (List Int)) (x8_2 : Int), v8 = .int .i64 x8_2 ∧ Aside0 (kinkeepref35_Apply.l1 kq l1 x7_2 x8_2 = some (r1, r2)) ∧ Aside0 (kq ≤ k1) ∧ Aside0 (Kd.S (Kd.slice 3 (Kd.int .i64)) 31 w' w.heap.size (fun _ => True) v710 x7_2) ∧ Aside0 (Below w.heap.size w w'))
          case atStart => exact ⟨(t709), (0), (by first | rfl | (simp; done) | (simp [*]; done)), H', ⟨Nat.le_refl _⟩, ⟨by (with_reducible repeat (first | apply Kd.S_alloc | apply Kd.S_drewN | apply Kd.S_drew)); exact HO711.out⟩, ⟨by repeat (first | (with_reducible first | exact HB.out | apply below_alloc | apply pw_below_drewN | apply below_drew1) | exact HB.out)⟩⟩
          case round =>
            clear H'
            try clear c1
            try clear c2
            try clear p2
            try clear c3
            try clear c4
            try clear c5
            try clear c5b0
            try clear c6
            try clear c6b0
            try clear p6
            try clear p7
            try clear q7
            try clear hx7
            try clear c8
            try clear hx707_0
            try clear hx707_1
            try clear hx707_2
            try clear hx707_3
            try clear p2
            try clear p707
            try clear q707
            obtain ⟨x7_2, x8_2, rfl, HA, HK2, HO_7, HB⟩ := hrel
            cases gk with
            | zero => exact absurd HA.out (by simp [kinkeepref35_Apply.l1])
            | succ k2 =>
              have H := HA.out
              clear HA
              simp only [kinkeepref35_Apply.l1] at H
              by_cases c13 : x8_2 < (l1.length : Int)
              · rw [if_pos c13] at H
                have c13b0 : decide (x8_2 < (l1.length : Int)) = true := decide_eq_true c13
                clear c13
                by_cases c14 : 0 ≤ x8_2
                · rw [if_pos c14] at H
                  have c14b0 : decide (0 ≤ x8_2) = true := decide_eq_true c14
                  clear c14
                  by_cases c15 : 0 ≤ ((rd_T24 l1 x8_2).f0)
                  · rw [if_pos c15] at H
                    have c15b0 : decide (0 ≤ ((rd_T24 l1 x8_2).f0)) = true := decide_eq_true c15
                    clear c15
                    by_cases c16 : ((rd_T24 l1 x8_2).f0) < (x7_2.length : Int)
                    · rw [if_pos c16] at H
                      have c16b0 : decide (((rd_T24 l1 x8_2).f0) < (x7_2.length : Int)) = true := decide_eq_true c16
                      clear c16
                      by_cases c17 : 0 ≤ ((rd_T24 l1 x8_2).f2)
                      · rw [if_pos c17] at H
                        have c17b0 : decide (0 ≤ ((rd_T24 l1 x8_2).f2)) = true := decide_eq_true c17
                        clear c17
                        by_cases c18 : ((rd_T24 l1 x8_2).f2) < ((rd_L1 x7_2 ((rd_T24 l1 x8_2).f0)).length : Int)
                        · rw [if_pos c18] at H
                          have c18b0 : decide (((rd_T24 l1 x8_2).f2) < ((rd_L1 x7_2 ((rd_T24 l1 x8_2).f0)).length : Int)) = true := decide_eq_true c18
                          clear c18
                          by_cases c19 : (rd (rd_L1 x7_2 ((rd_T24 l1 x8_2).f0)) ((rd_T24 l1 x8_2).f2)) < ((rd_T24 l1 x8_2).f3)
                          · rw [if_pos c19] at H
                            have c19b0 : decide ((rd (rd_L1 x7_2 ((rd_T24 l1 x8_2).f0)) ((rd_T24 l1 x8_2).f2)) < ((rd_T24 l1 x8_2).f3)) = true := decide_eq_true c19
                            clear c19
                            simp only [Option.some.injEq, Prod.mk.injEq] at H
                            obtain ⟨rfl, rfl⟩ := H
                            have p712 : 0 ≤ (x8_2 : Int) := of_decide_eq_true (by first | (with_reducible assumption) | assumption)
                            have q712 : x8_2 < (l1.length : Int) := of_decide_eq_true (by first | (with_reducible assumption) | assumption)
                            obtain ⟨ad712, e712, hx712_0, hx712_1, hx712_2, hx712_3⟩ := at_T24 HR1.out x8_2 p712 q712
                            cases e712
                            replace hx712_0 := (HB.out.cell (World.block_lt_of_cell? w _ hx712_0)).trans hx712_0
                            replace hx712_1 := (HB.out.cell (World.block_lt_of_cell? w _ hx712_1)).trans hx712_1
                            replace hx712_2 := (HB.out.cell (World.block_lt_of_cell? w _ hx712_2)).trans hx712_2
                            replace hx712_3 := (HB.out.cell (World.block_lt_of_cell? w _ hx712_3)).trans hx712_3
                            replace p712 := eq_true p712
                            replace q712 := eq_true q712
                            try go_wp2_with (first | ((with_reducible refine gate_dst (N := 9) rfl ?_); refine box_event ?hg (N := 9) ?hd (cs := #[.int .i64 0, .int .i64 0, .int .i64 0, .int .i64 0]) (t := 24) ?hr ?_; (case hd => rfl); (case hg => rfl); (case hr => first | (go_simp; done) | (go_simp; rfl)); intro gb713 hg w20 hbox hb; have n0_ := Aside0.mk (Kd.S_below (by (with_reducible repeat (first | apply Kd.S_alloc | apply Kd.S_drewN | apply Kd.S_drew)); exact HO_7.out) hb); have n1_ := Aside0.mk (below_step (by repeat (first | (with_reducible first | exact HB.out | apply below_alloc | apply pw_below_drewN | apply below_drew1) | exact HB.out)) hb); have n2_ := Aside0.mk (hbox); have n3_ := Aside0.mk ((by rw [hg]; exact (below_size (by repeat (first | (with_reducible first | exact HB.out | apply below_alloc | apply pw_below_drewN | apply below_drew1) | exact HB.out))) : w.heap.size ≤ gb713)); have n4_ := Aside0.mk ((by rw [hg]; exact (below_size (by repeat (first | (with_reducible first | exact HB.out | apply below_alloc | apply pw_below_drewN | apply below_drew1) | exact HB.out))) : w.heap.size ≤ gb713)); clear HO_7; clear HB; have HO_7 := n0_; have HB := n1_; have BK713 := n2_; have GW713 := n3_; have GE713 := n4_; clear n0_ n1_ n2_ n3_ n4_; clear hb hbox hg; have hcz21_0 : w20.cell? ⟨gb713, 0, none⟩ = some (.int .i64 0) := (blk_cell BK713.out 0).trans rfl; have hcz21_1 : w20.cell? ⟨gb713, 1, none⟩ = some (.int .i64 0) := (blk_cell BK713.out 1).trans rfl; have hcz21_2 : w20.cell? ⟨gb713, 2, none⟩ = some (.int .i64 0) := (blk_cell BK713.out 2).trans rfl; have hcz21_3 : w20.cell? ⟨gb713, 3, none⟩ = some (.int .i64 0) := (blk_cell BK713.out 3).trans rfl; have hfz21_0 := blk_frozen BK713.out 0; have hfz21_1 := blk_frozen BK713.out 1; have hfz21_2 := blk_frozen BK713.out 2; have hfz21_3 := blk_frozen BK713.out 3))
                            have n0_ : Aside0 (Kd.S (Kd.slice 3 (Kd.int .i64)) 31 ((((w20.setCell ⟨gb713, 0, none⟩ (.int .i64 ((rd_T24 l1 x8_2).f0))).setCell ⟨gb713, 1, none⟩ (.int .i64 ((rd_T24 l1 x8_2).f1))).setCell ⟨gb713, 2, none⟩ (.int .i64 ((rd_T24 l1 x8_2).f2))).setCell ⟨gb713, 3, none⟩ (.int .i64 ((rd_T24 l1 x8_2).f3))) w.heap.size (fun _ => True) v710 x7_2) := ⟨by (with_reducible repeat (first | apply Kd.S_alloc | apply Kd.S_drewN | apply Kd.S_drew)); exact Kd.S_mono (Kd.S_far (p := ⟨gb713, 3, none⟩) (Kd.S_far (p := ⟨gb713, 2, none⟩) (Kd.S_far (p := ⟨gb713, 1, none⟩) (Kd.S_far (p := ⟨gb713, 0, none⟩) (Kd.S_types HO_7.out BK713.out (by decide)) (fun _ hk => hk.2) (.int .i64 ((rd_T24 l1 x8_2).f0))) (fun _ hk => hk.2) (.int .i64 ((rd_T24 l1 x8_2).f1))) (fun _ hk => hk.2) (.int .i64 ((rd_T24 l1 x8_2).f2))) (fun _ hk => hk.2) (.int .i64 ((rd_T24 l1 x8_2).f3))) (fun _ hk => trivial)⟩
                            have n1_ : Aside0 (((((w20.setCell ⟨gb713, 0, none⟩ (.int .i64 ((rd_T24 l1 x8_2).f0))).setCell ⟨gb713, 1, none⟩ (.int .i64 ((rd_T24 l1 x8_2).f1))).setCell ⟨gb713, 2, none⟩ (.int .i64 ((rd_T24 l1 x8_2).f2))).setCell ⟨gb713, 3, none⟩ (.int .i64 ((rd_T24 l1 x8_2).f3))).heap[gb713]? = some (.cells #[.int .i64 ((rd_T24 l1 x8_2).f0), .int .i64 ((rd_T24 l1 x8_2).f1), .int .i64 ((rd_T24 l1 x8_2).f2), .int .i64 ((rd_T24 l1 x8_2).f3)] 24 (0, 0))) := ⟨by (with_reducible repeat (first | refine blk_drewN ?_ _ | refine blk_drew ?_ | refine blk_alloc ?_ _)); refine blk_put (cs := #[.int .i64 ((rd_T24 l1 x8_2).f0), .int .i64 ((rd_T24 l1 x8_2).f1), .int .i64 ((rd_T24 l1 x8_2).f2), .int .i64 0]) ?_ 3 _ rfl; (with_reducible repeat (first | refine blk_drewN ?_ _ | refine blk_drew ?_ | refine blk_alloc ?_ _)); refine blk_put (cs := #[.int .i64 ((rd_T24 l1 x8_2).f0), .int .i64 ((rd_T24 l1 x8_2).f1), .int .i64 0, .int .i64 0]) ?_ 2 _ rfl; (with_reducible repeat (first | refine blk_drewN ?_ _ | refine blk_drew ?_ | refine blk_alloc ?_ _)); refine blk_put (cs := #[.int .i64 ((rd_T24 l1 x8_2).f0), .int .i64 0, .int .i64 0, .int .i64 0]) ?_ 1 _ rfl; (with_reducible repeat (first | refine blk_drewN ?_ _ | refine blk_drew ?_ | refine blk_alloc ?_ _)); refine blk_put (cs := #[.int .i64 0, .int .i64 0, .int .i64 0, .int .i64 0]) ?_ 0 _ rfl; (with_reducible repeat (first | refine blk_drewN ?_ _ | refine blk_drew ?_ | refine blk_alloc ?_ _)); exact BK713.out⟩
                            have n2_ : Aside0 (Below w.heap.size w ((((w20.setCell ⟨gb713, 0, none⟩ (.int .i64 ((rd_T24 l1 x8_2).f0))).setCell ⟨gb713, 1, none⟩ (.int .i64 ((rd_T24 l1 x8_2).f1))).setCell ⟨gb713, 2, none⟩ (.int .i64 ((rd_T24 l1 x8_2).f2))).setCell ⟨gb713, 3, none⟩ (.int .i64 ((rd_T24 l1 x8_2).f3)))) := ⟨by repeat (first | (with_reducible first | exact HB.out | apply below_alloc | apply pw_below_drewN | apply below_drew1 | refine below_set ?_ GE713.out) | exact HB.out)⟩
                            (try clear HO_7)
                            (try clear BK713)
                            (try clear HB)
                            generalize ((((w20.setCell ⟨gb713, 0, none⟩ (.int .i64 ((rd_T24 l1 x8_2).f0))).setCell ⟨gb713, 1, none⟩ (.int .i64 ((rd_T24 l1 x8_2).f1))).setCell ⟨gb713, 2, none⟩ (.int .i64 ((rd_T24 l1 x8_2).f2))).setCell ⟨gb713, 3, none⟩ (.int .i64 ((rd_T24 l1 x8_2).f3))) = w22 at n0_ n1_ n2_ ⊢
                            have HO_7 := n0_
                            have BK713 := n1_
                            have HB := n2_
                            clear n0_ n1_ n2_
                            have n0_ := Aside0.mk (Kd.S_drew HO_7.out)
                            have n1_ := Aside0.mk (blk_drew BK713.out)
                            have n2_ := Aside0.mk (below_drew1 HB.out)
                            clear HO_7
                            clear BK713
                            clear HB
                            have HO_7 := n0_
                            have BK713 := n1_
                            have HB := n2_
                            clear n0_ n1_ n2_
                            obtain ⟨Ao24, co24, eo24⟩ := Kd.S_slice HO_7.out
                            (first | subst eo24 | (injection eo24 with f1_ f2_ f3_; have f4_ := f1_.symm; have f5_ := f3_.symm; clear f1_ f2_ f3_; subst f4_; subst f5_))
                            have p714 : 0 ≤ (((rd_T24 l1 x8_2).f0) : Int) := of_decide_eq_true (by first | (with_reducible assumption) | assumption)
                            have q714 : ((rd_T24 l1 x8_2).f0) < (x7_2.length : Int) := of_decide_eq_true (by first | (with_reducible assumption) | assumption)
                            obtain ⟨ad714, A714_0, c714_0, e714, hx714_0, hl714_0, hi714_0⟩ := at_L1 (Kd.S_reads' HO_7.out).2.2 ((rd_T24 l1 x8_2).f0) p714 q714
                            cases e714
                            obtain ⟨ce714, hce714, hMe714, hcc714⟩ := Kd.S_get HO_7.out [] ((rd_T24 l1 x8_2).f0) p714 (by first | exact q714 | exact of_decide_eq_true (by first | (with_reducible assumption) | assumption) | (have e_ := (Kd.S_reads' HO_7.out).1; omega))
                            obtain ⟨ve714_0, rfl, ge714_0⟩ := hMe714
                            have hv714_0 := hcc714 0 _ rfl
                            rw [Nat.add_zero, show ((Kd.slice 3 (Kd.int .i64))).sz = 1 from rfl, Nat.mul_one] at hv714_0
                            replace hv714_0 := Option.some.inj (hv714_0.symm.trans hx714_0)
                            rw [hv714_0] at ge714_0
                            have HL714_0 := Aside0.mk (show Kd.R (Kd.int .i64) 3 _ _ _ _ (rd_L1 x7_2 ((rd_T24 l1 x8_2).f0)) from ge714_0)
                            clear hv714_0 ge714_0
                            have HX714_0 := Aside0.mk hx714_0
                            clear hcc714 hce714
                            have HR714_0 := Aside0.mk hi714_0
                            have HC714_0 := Aside0.mk hl714_0
                            clear hi714_0 hl714_0
                            replace p714 := eq_true p714
                            replace q714 := eq_true q714
                            have p715 : 0 ≤ (((rd_T24 l1 x8_2).f2) : Int) := of_decide_eq_true (by first | (with_reducible assumption) | assumption)
                            have q715 : ((rd_T24 l1 x8_2).f2) < ((rd_L1 x7_2 ((rd_T24 l1 x8_2).f0)).length : Int) := of_decide_eq_true (by first | (with_reducible assumption) | assumption)
                            obtain ⟨ad715, e715, hx715_0⟩ := Kd.at_int (by repeat (first | (with_reducible exact HR714_0.out) | (with_reducible refine Kd.C_alloc ?_ _) | (with_reducible refine Kd.C_drewN ?_ _) | (with_reducible refine Kd.C_drew ?_) | exact HR714_0.out)) ((rd_T24 l1 x8_2).f2) p715 q715
                            cases e715
                            replace p715 := eq_true p715
                            replace q715 := eq_true q715
                            refine start_ (n := 12) (S := fun w' => w'.cell? ⟨gb713, 0, none⟩ = some (.int .i64 ((rd_T24 l1 x8_2).f0)) ∧ w'.cell? ⟨gb713, 1, none⟩ = some (.int .i64 ((rd_T24 l1 x8_2).f1)) ∧ w'.cell? ⟨gb713, 2, none⟩ = some (.int .i64 ((rd_T24 l1 x8_2).f2)) ∧ w'.cell? ⟨gb713, 3, none⟩ = some (.int .i64 ((rd_T24 l1 x8_2).f3)) ∧ w'.cell? (ad714.add (((rd_T24 l1 x8_2).f0)).toNat) = some (.slice (some ad715) (rd_L1 x7_2 ((rd_T24 l1 x8_2).f0)).length c714_0) ∧ w'.cell? (ad715.add (((rd_T24 l1 x8_2).f2)).toNat) = some (.int .i64 (rd (rd_L1 x7_2 ((rd_T24 l1 x8_2).f0)) ((rd_T24 l1 x8_2).f2)))) (ds := []) #[false, false, false, false, false, false, false, false, false, false, false, false] (by kernel_rfl) rfl rfl ⟨(blk_cell BK713.out 0).trans rfl, (blk_cell BK713.out 1).trans rfl, (blk_cell BK713.out 2).trans rfl, (blk_cell BK713.out 3).trans rfl, hx714_0, hx715_0⟩ (fun hHeld => ?_); refine with_tabW kinkeepref35_Apply.tab13 kinkeepref35_Apply.bits13 (fun HT_ HW_ => ?_)
                            generalize w22.drew = w23 at HO_7 BK713 HB HL714_0 HR714_0 HX714_0 hx714_0 hx715_0 hHeld ⊢
                            refine pure_ (i := 0) (N := some 39) (v := ?_) (a' := ?_) #[true, false, false, false, false, false, false, false, false, false, false, false] rfl rfl (any_of HT_.out (by kernel_rfl)) (fun _ _ _ h => h) (Or.inl ⟨by rfl, ?_⟩) ?_ ?_
                            rotate_left
                            · intro w'
                              go_simp
                              with_reducible rfl
                            rotate_left
                            · simp only [Act.put, List.setIfInBounds_toArray, List.set_cons_zero, List.set_cons_succ, i64_w, i32_w]
                              rfl
                            refine pure_ (i := 1) (N := some 40) (v := ?_) (a' := ?_) #[true, true, false, false, false, false, false, false, false, false, false, false] rfl rfl (any_of HT_.out (by kernel_rfl)) (fun _ _ _ h => h) (Or.inl ⟨by rfl, ?_⟩) ?_ ?_
                            rotate_left
                            · intro w'
                              go_simp
                              with_reducible rfl
                            rotate_left
                            · simp only [Act.put, List.setIfInBounds_toArray, List.set_cons_zero, List.set_cons_succ, i64_w, i32_w]
                              rfl
                            refine pure_ (i := 5) (N := some 44) (v := ?_) (a' := ?_) #[true, true, false, false, false, true, false, false, false, false, false, false] rfl rfl (any_of HT_.out (by kernel_rfl)) (fun _ _ _ h => h) (Or.inl ⟨by rfl, ?_⟩) ?_ ?_
                            rotate_left
                            · intro w'
                              go_simp
                              with_reducible rfl
                            rotate_left
                            · simp only [Act.put, List.setIfInBounds_toArray, List.set_cons_zero, List.set_cons_succ, i64_w, i32_w]
                              rfl
                            refine pure_ (i := 9) (N := some 48) (v := ?_) (a' := ?_) #[true, true, false, false, false, true, false, false, false, true, false, false] rfl rfl (any_of HT_.out (by kernel_rfl)) (fun _ _ _ h => h) (Or.inl ⟨by rfl, ?_⟩) ?_ ?_
                            rotate_left
                            · intro w'
                              go_simp
                              with_reducible rfl
                            rotate_left
                            · simp only [Act.put, List.setIfInBounds_toArray, List.set_cons_zero, List.set_cons_succ, i64_w, i32_w]
                              rfl
                            refine take_ (i := 2) (N := some 41) (v := ?_) (a' := ?_) #[true, true, true, false, false, true, false, false, false, true, false, false] rfl rfl (take_ofW HT_.out HW_.out (by kernel_rfl)) (fun _ _ _ h => h) (Or.inl ⟨by rfl, ?_⟩) hHeld ?_ ?_
                            rotate_left
                            · rintro w' ⟨s0, s1, s2, s3, s4, s5⟩
                              go_simp
                              with_reducible rfl
                            rotate_left
                            · simp only [Act.put, List.setIfInBounds_toArray, List.set_cons_zero, List.set_cons_succ, i64_w, i32_w]
                              rfl
                            refine pure_ (i := 3) (N := some 42) (v := ?_) (a' := ?_) #[true, true, true, true, false, true, false, false, false, true, false, false] rfl rfl (any_of HT_.out (by kernel_rfl)) (fun _ _ _ h => h) (Or.inl ⟨by rfl, ?_⟩) ?_ ?_
                            rotate_left
                            · intro w'
                              go_simp
                              with_reducible rfl
                            rotate_left
                            · simp only [Act.put, List.setIfInBounds_toArray, List.set_cons_zero, List.set_cons_succ, i64_w, i32_w]
                              rfl
                            refine take_ (i := 4) (N := some 43) (v := ?_) (a' := ?_) #[true, true, true, true, true, true, false, false, false, true, false, false] rfl rfl (take_ofW HT_.out HW_.out (by kernel_rfl)) (fun _ _ _ h => h) (Or.inl ⟨by rfl, ?_⟩) hHeld ?_ ?_
                            rotate_left
                            · rintro w' ⟨s0, s1, s2, s3, s4, s5⟩
                              go_simp
                              with_reducible rfl
                            rotate_left
                            · simp only [Act.put, List.setIfInBounds_toArray, List.set_cons_zero, List.set_cons_succ, i64_w, i32_w]
                              rfl
                            refine take_ (i := 6) (N := some 45) (v := ?_) (a' := ?_) #[true, true, true, true, true, true, true, false, false, true, false, false] rfl rfl (take_ofW HT_.out HW_.out (by kernel_rfl)) (fun _ _ _ h => h) (Or.inl ⟨by rfl, ?_⟩) hHeld ?_ ?_
                            rotate_left
                            · rintro w' ⟨s0, s1, s2, s3, s4, s5⟩
                              go_simp
                              with_reducible rfl
                            rotate_left
                            · simp only [Act.put, List.setIfInBounds_toArray, List.set_cons_zero, List.set_cons_succ, i64_w, i32_w]
                              rfl
                            refine pure_ (i := 7) (N := some 46) (v := ?_) (a' := ?_) #[true, true, true, true, true, true, true, true, false, true, false, false] rfl rfl (any_of HT_.out (by kernel_rfl)) (fun _ _ _ h => h) (Or.inl ⟨by rfl, ?_⟩) ?_ ?_
                            rotate_left
                            · intro w'
                              go_simp
                              with_reducible rfl
                            rotate_left
                            · simp only [Act.put, List.setIfInBounds_toArray, List.set_cons_zero, List.set_cons_succ, i64_w, i32_w]
                              rfl
                            refine take_ (i := 8) (N := some 47) (v := ?_) (a' := ?_) #[true, true, true, true, true, true, true, true, true, true, false, false] rfl rfl (take_ofW HT_.out HW_.out (by kernel_rfl)) (fun _ _ _ h => h) (Or.inl ⟨by rfl, ?_⟩) hHeld ?_ ?_
                            rotate_left
                            · rintro w' ⟨s0, s1, s2, s3, s4, s5⟩
                              go_simp
                              with_reducible rfl
                            rotate_left
                            · simp only [Act.put, List.setIfInBounds_toArray, List.set_cons_zero, List.set_cons_succ, i64_w, i32_w]
                              rfl
                            refine take_ (i := 10) (N := some 49) (v := ?_) (a' := ?_) #[true, true, true, true, true, true, true, true, true, true, true, false] rfl rfl (take_ofW HT_.out HW_.out (by kernel_rfl)) (fun _ _ _ h => h) (Or.inl ⟨by rfl, ?_⟩) hHeld ?_ ?_
                            rotate_left
                            · rintro w' ⟨s0, s1, s2, s3, s4, s5⟩
                              go_simp
                              with_reducible rfl
                            rotate_left
                            · simp only [Act.put, List.setIfInBounds_toArray, List.set_cons_zero, List.set_cons_succ, i64_w, i32_w]
                              rfl
                            refine pure_ (i := 11) (N := some 50) (v := ?_) (a' := ?_) #[true, true, true, true, true, true, true, true, true, true, true, true] rfl rfl (any_of HT_.out (by kernel_rfl)) (fun _ _ _ h => h) (Or.inl ⟨by rfl, ?_⟩) ?_ ?_
                            rotate_left
                            · intro w'
                              go_simp
                              with_reducible rfl
                            rotate_left
                            · simp only [Act.put, List.setIfInBounds_toArray, List.set_cons_zero, List.set_cons_succ, i64_w, i32_w]
                              rfl
                            refine done_ (done_of HT_.out (by kernel_rfl)) ?_
                            try go_wp2
                            go_ret2
                            exact ⟨_, by first | rfl | (simp [errW_none, errW_some] <;> rfl) | (simp [*, errW_none, errW_some] <;> rfl), by first | exact Kd.S_nil _ _ _ _ _ | exact Kd.N_nil _ _ _ _ _ | exact Kd.V_nil _ _ _ _ _ | exact Kd.Q_nil _ _ _ _ _ | exact Kd.R_nil _ _ _ _ _, by repeat (first | (with_reducible first | exact HB.out | apply below_alloc | apply pw_below_drewN | apply below_drew1 | refine below_set ?_ GE713.out) | exact HB.out)⟩
                          · rw [if_neg c19] at H
                            have c19b0 : decide ((rd (rd_L1 x7_2 ((rd_T24 l1 x8_2).f0)) ((rd_T24 l1 x8_2).f2)) < ((rd_T24 l1 x8_2).f3)) = false := decide_eq_false c19
                            clear c19
                            by_cases c25 : 0 ≤ ((rd_T24 l1 x8_2).f1)
                            · rw [if_pos c25] at H
                              have c25b0 : decide (0 ≤ ((rd_T24 l1 x8_2).f1)) = true := decide_eq_true c25
                              clear c25
                              by_cases c26 : ((rd_T24 l1 x8_2).f1) < (x7_2.length : Int)
                              · rw [if_pos c26] at H
                                have c26b0 : decide (((rd_T24 l1 x8_2).f1) < (x7_2.length : Int)) = true := decide_eq_true c26
                                clear c26
                                by_cases c27 : ((rd_T24 l1 x8_2).f2) < ((rd_L1 x7_2 ((rd_T24 l1 x8_2).f1)).length : Int)
                                · rw [if_pos c27] at H
                                  have c27b0 : decide (((rd_T24 l1 x8_2).f2) < ((rd_L1 x7_2 ((rd_T24 l1 x8_2).f1)).length : Int)) = true := decide_eq_true c27
                                  clear c27
                                  by_cases c28 : (wrap64 ((rd (rd_L1 x7_2 ((rd_T24 l1 x8_2).f1)) ((rd_T24 l1 x8_2).f2)) + ((rd_T24 l1 x8_2).f3))) > 1099511627776
                                  · rw [if_pos c28] at H
                                    have c28b0 : decide (1099511627776 < (wrap64 ((rd (rd_L1 x7_2 ((rd_T24 l1 x8_2).f1)) ((rd_T24 l1 x8_2).f2)) + ((rd_T24 l1 x8_2).f3)))) = true := decide_eq_true c28
                                    clear c28
                                    simp only [Option.some.injEq, Prod.mk.injEq] at H
                                    obtain ⟨rfl, rfl⟩ := H
                                    have p712 : 0 ≤ (x8_2 : Int) := of_decide_eq_true (by first | (with_reducible assumption) | assumption)
                                    have q712 : x8_2 < (l1.length : Int) := of_decide_eq_true (by first | (with_reducible assumption) | assumption)
                                    obtain ⟨ad712, e712, hx712_0, hx712_1, hx712_2, hx712_3⟩ := at_T24 HR1.out x8_2 p712 q712
                                    cases e712
                                    replace hx712_0 := (HB.out.cell (World.block_lt_of_cell? w _ hx712_0)).trans hx712_0
                                    replace hx712_1 := (HB.out.cell (World.block_lt_of_cell? w _ hx712_1)).trans hx712_1
                                    replace hx712_2 := (HB.out.cell (World.block_lt_of_cell? w _ hx712_2)).trans hx712_2
                                    replace hx712_3 := (HB.out.cell (World.block_lt_of_cell? w _ hx712_3)).trans hx712_3
                                    replace p712 := eq_true p712
                                    replace q712 := eq_true q712
                                    try go_wp2_with (first | ((with_reducible refine gate_dst (N := 9) rfl ?_); refine box_event ?hg (N := 9) ?hd (cs := #[.int .i64 0, .int .i64 0, .int .i64 0, .int .i64 0]) (t := 24) ?hr ?_; (case hd => rfl); (case hg => rfl); (case hr => first | (go_simp; done) | (go_simp; rfl)); intro gb713 hg w29 hbox hb; have n0_ := Aside0.mk (Kd.S_below (by (with_reducible repeat (first | apply Kd.S_alloc | apply Kd.S_drewN | apply Kd.S_drew)); exact HO_7.out) hb); have n1_ := Aside0.mk (below_step (by repeat (first | (with_reducible first | exact HB.out | apply below_alloc | apply pw_below_drewN | apply below_drew1) | exact HB.out)) hb); have n2_ := Aside0.mk (hbox); have n3_ := Aside0.mk ((by rw [hg]; exact (below_size (by repeat (first | (with_reducible first | exact HB.out | apply below_alloc | apply pw_below_drewN | apply below_drew1) | exact HB.out))) : w.heap.size ≤ gb713)); have n4_ := Aside0.mk ((by rw [hg]; exact (below_size (by repeat (first | (with_reducible first | exact HB.out | apply below_alloc | apply pw_below_drewN | apply below_drew1) | exact HB.out))) : w.heap.size ≤ gb713)); clear HO_7; clear HB; have HO_7 := n0_; have HB := n1_; have BK713 := n2_; have GW713 := n3_; have GE713 := n4_; clear n0_ n1_ n2_ n3_ n4_; clear hb hbox hg; have hcz30_0 : w29.cell? ⟨gb713, 0, none⟩ = some (.int .i64 0) := (blk_cell BK713.out 0).trans rfl; have hcz30_1 : w29.cell? ⟨gb713, 1, none⟩ = some (.int .i64 0) := (blk_cell BK713.out 1).trans rfl; have hcz30_2 : w29.cell? ⟨gb713, 2, none⟩ = some (.int .i64 0) := (blk_cell BK713.out 2).trans rfl; have hcz30_3 : w29.cell? ⟨gb713, 3, none⟩ = some (.int .i64 0) := (blk_cell BK713.out 3).trans rfl; have hfz30_0 := blk_frozen BK713.out 0; have hfz30_1 := blk_frozen BK713.out 1; have hfz30_2 := blk_frozen BK713.out 2; have hfz30_3 := blk_frozen BK713.out 3))
                                    have n0_ : Aside0 (Kd.S (Kd.slice 3 (Kd.int .i64)) 31 ((((w29.setCell ⟨gb713, 0, none⟩ (.int .i64 ((rd_T24 l1 x8_2).f0))).setCell ⟨gb713, 1, none⟩ (.int .i64 ((rd_T24 l1 x8_2).f1))).setCell ⟨gb713, 2, none⟩ (.int .i64 ((rd_T24 l1 x8_2).f2))).setCell ⟨gb713, 3, none⟩ (.int .i64 ((rd_T24 l1 x8_2).f3))) w.heap.size (fun _ => True) v710 x7_2) := ⟨by (with_reducible repeat (first | apply Kd.S_alloc | apply Kd.S_drewN | apply Kd.S_drew)); exact Kd.S_mono (Kd.S_far (p := ⟨gb713, 3, none⟩) (Kd.S_far (p := ⟨gb713, 2, none⟩) (Kd.S_far (p := ⟨gb713, 1, none⟩) (Kd.S_far (p := ⟨gb713, 0, none⟩) (Kd.S_types HO_7.out BK713.out (by decide)) (fun _ hk => hk.2) (.int .i64 ((rd_T24 l1 x8_2).f0))) (fun _ hk => hk.2) (.int .i64 ((rd_T24 l1 x8_2).f1))) (fun _ hk => hk.2) (.int .i64 ((rd_T24 l1 x8_2).f2))) (fun _ hk => hk.2) (.int .i64 ((rd_T24 l1 x8_2).f3))) (fun _ hk => trivial)⟩
                                    have n1_ : Aside0 (((((w29.setCell ⟨gb713, 0, none⟩ (.int .i64 ((rd_T24 l1 x8_2).f0))).setCell ⟨gb713, 1, none⟩ (.int .i64 ((rd_T24 l1 x8_2).f1))).setCell ⟨gb713, 2, none⟩ (.int .i64 ((rd_T24 l1 x8_2).f2))).setCell ⟨gb713, 3, none⟩ (.int .i64 ((rd_T24 l1 x8_2).f3))).heap[gb713]? = some (.cells #[.int .i64 ((rd_T24 l1 x8_2).f0), .int .i64 ((rd_T24 l1 x8_2).f1), .int .i64 ((rd_T24 l1 x8_2).f2), .int .i64 ((rd_T24 l1 x8_2).f3)] 24 (0, 0))) := ⟨by (with_reducible repeat (first | refine blk_drewN ?_ _ | refine blk_drew ?_ | refine blk_alloc ?_ _)); refine blk_put (cs := #[.int .i64 ((rd_T24 l1 x8_2).f0), .int .i64 ((rd_T24 l1 x8_2).f1), .int .i64 ((rd_T24 l1 x8_2).f2), .int .i64 0]) ?_ 3 _ rfl; (with_reducible repeat (first | refine blk_drewN ?_ _ | refine blk_drew ?_ | refine blk_alloc ?_ _)); refine blk_put (cs := #[.int .i64 ((rd_T24 l1 x8_2).f0), .int .i64 ((rd_T24 l1 x8_2).f1), .int .i64 0, .int .i64 0]) ?_ 2 _ rfl; (with_reducible repeat (first | refine blk_drewN ?_ _ | refine blk_drew ?_ | refine blk_alloc ?_ _)); refine blk_put (cs := #[.int .i64 ((rd_T24 l1 x8_2).f0), .int .i64 0, .int .i64 0, .int .i64 0]) ?_ 1 _ rfl; (with_reducible repeat (first | refine blk_drewN ?_ _ | refine blk_drew ?_ | refine blk_alloc ?_ _)); refine blk_put (cs := #[.int .i64 0, .int .i64 0, .int .i64 0, .int .i64 0]) ?_ 0 _ rfl; (with_reducible repeat (first | refine blk_drewN ?_ _ | refine blk_drew ?_ | refine blk_alloc ?_ _)); exact BK713.out⟩
                                    have n2_ : Aside0 (Below w.heap.size w ((((w29.setCell ⟨gb713, 0, none⟩ (.int .i64 ((rd_T24 l1 x8_2).f0))).setCell ⟨gb713, 1, none⟩ (.int .i64 ((rd_T24 l1 x8_2).f1))).setCell ⟨gb713, 2, none⟩ (.int .i64 ((rd_T24 l1 x8_2).f2))).setCell ⟨gb713, 3, none⟩ (.int .i64 ((rd_T24 l1 x8_2).f3)))) := ⟨by repeat (first | (with_reducible first | exact HB.out | apply below_alloc | apply pw_below_drewN | apply below_drew1 | refine below_set ?_ GE713.out) | exact HB.out)⟩
                                    (try clear HO_7)
                                    (try clear BK713)
                                    (try clear HB)
                                    generalize ((((w29.setCell ⟨gb713, 0, none⟩ (.int .i64 ((rd_T24 l1 x8_2).f0))).setCell ⟨gb713, 1, none⟩ (.int .i64 ((rd_T24 l1 x8_2).f1))).setCell ⟨gb713, 2, none⟩ (.int .i64 ((rd_T24 l1 x8_2).f2))).setCell ⟨gb713, 3, none⟩ (.int .i64 ((rd_T24 l1 x8_2).f3))) = w31 at n0_ n1_ n2_ ⊢
                                    have HO_7 := n0_
                                    have BK713 := n1_
                                    have HB := n2_
                                    clear n0_ n1_ n2_
                                    have n0_ := Aside0.mk (Kd.S_drew HO_7.out)
                                    have n1_ := Aside0.mk (blk_drew BK713.out)
                                    have n2_ := Aside0.mk (below_drew1 HB.out)
                                    clear HO_7
                                    clear BK713
                                    clear HB
                                    have HO_7 := n0_
                                    have BK713 := n1_
                                    have HB := n2_
                                    clear n0_ n1_ n2_
                                    obtain ⟨Ao33, co33, eo33⟩ := Kd.S_slice HO_7.out
                                    (first | subst eo33 | (injection eo33 with f1_ f2_ f3_; have f4_ := f1_.symm; have f5_ := f3_.symm; clear f1_ f2_ f3_; subst f4_; subst f5_))
                                    have p714 : 0 ≤ (((rd_T24 l1 x8_2).f0) : Int) := of_decide_eq_true (by first | (with_reducible assumption) | assumption)
                                    have q714 : ((rd_T24 l1 x8_2).f0) < (x7_2.length : Int) := of_decide_eq_true (by first | (with_reducible assumption) | assumption)
                                    obtain ⟨ad714, A714_0, c714_0, e714, hx714_0, hl714_0, hi714_0⟩ := at_L1 (Kd.S_reads' HO_7.out).2.2 ((rd_T24 l1 x8_2).f0) p714 q714
                                    cases e714
                                    obtain ⟨ce714, hce714, hMe714, hcc714⟩ := Kd.S_get HO_7.out [] ((rd_T24 l1 x8_2).f0) p714 (by first | exact q714 | exact of_decide_eq_true (by first | (with_reducible assumption) | assumption) | (have e_ := (Kd.S_reads' HO_7.out).1; omega))
                                    obtain ⟨ve714_0, rfl, ge714_0⟩ := hMe714
                                    have hv714_0 := hcc714 0 _ rfl
                                    rw [Nat.add_zero, show ((Kd.slice 3 (Kd.int .i64))).sz = 1 from rfl, Nat.mul_one] at hv714_0
                                    replace hv714_0 := Option.some.inj (hv714_0.symm.trans hx714_0)
                                    rw [hv714_0] at ge714_0
                                    have HL714_0 := Aside0.mk (show Kd.R (Kd.int .i64) 3 _ _ _ _ (rd_L1 x7_2 ((rd_T24 l1 x8_2).f0)) from ge714_0)
                                    clear hv714_0 ge714_0
                                    have HX714_0 := Aside0.mk hx714_0
                                    clear hcc714 hce714
                                    have HR714_0 := Aside0.mk hi714_0
                                    have HC714_0 := Aside0.mk hl714_0
                                    clear hi714_0 hl714_0
                                    replace p714 := eq_true p714
                                    replace q714 := eq_true q714
                                    have p715 : 0 ≤ (((rd_T24 l1 x8_2).f2) : Int) := of_decide_eq_true (by first | (with_reducible assumption) | assumption)
                                    have q715 : ((rd_T24 l1 x8_2).f2) < ((rd_L1 x7_2 ((rd_T24 l1 x8_2).f0)).length : Int) := of_decide_eq_true (by first | (with_reducible assumption) | assumption)
                                    obtain ⟨ad715, e715, hx715_0⟩ := Kd.at_int (by repeat (first | (with_reducible exact HR714_0.out) | (with_reducible refine Kd.C_alloc ?_ _) | (with_reducible refine Kd.C_drewN ?_ _) | (with_reducible refine Kd.C_drew ?_) | exact HR714_0.out)) ((rd_T24 l1 x8_2).f2) p715 q715
                                    cases e715
                                    replace p715 := eq_true p715
                                    replace q715 := eq_true q715
                                    refine start_ (n := 12) (S := fun w' => w'.cell? ⟨gb713, 0, none⟩ = some (.int .i64 ((rd_T24 l1 x8_2).f0)) ∧ w'.cell? ⟨gb713, 1, none⟩ = some (.int .i64 ((rd_T24 l1 x8_2).f1)) ∧ w'.cell? ⟨gb713, 2, none⟩ = some (.int .i64 ((rd_T24 l1 x8_2).f2)) ∧ w'.cell? ⟨gb713, 3, none⟩ = some (.int .i64 ((rd_T24 l1 x8_2).f3)) ∧ w'.cell? (ad714.add (((rd_T24 l1 x8_2).f0)).toNat) = some (.slice (some ad715) (rd_L1 x7_2 ((rd_T24 l1 x8_2).f0)).length c714_0) ∧ w'.cell? (ad715.add (((rd_T24 l1 x8_2).f2)).toNat) = some (.int .i64 (rd (rd_L1 x7_2 ((rd_T24 l1 x8_2).f0)) ((rd_T24 l1 x8_2).f2)))) (ds := []) #[false, false, false, false, false, false, false, false, false, false, false, false] (by kernel_rfl) rfl rfl ⟨(blk_cell BK713.out 0).trans rfl, (blk_cell BK713.out 1).trans rfl, (blk_cell BK713.out 2).trans rfl, (blk_cell BK713.out 3).trans rfl, hx714_0, hx715_0⟩ (fun hHeld => ?_); refine with_tabW kinkeepref35_Apply.tab13 kinkeepref35_Apply.bits13 (fun HT_ HW_ => ?_)
                                    generalize w31.drew = w32 at HO_7 BK713 HB HL714_0 HR714_0 HX714_0 hx714_0 hx715_0 hHeld ⊢
                                    refine pure_ (i := 0) (N := some 39) (v := ?_) (a' := ?_) #[true, false, false, false, false, false, false, false, false, false, false, false] rfl rfl (any_of HT_.out (by kernel_rfl)) (fun _ _ _ h => h) (Or.inl ⟨by rfl, ?_⟩) ?_ ?_
                                    rotate_left
                                    · intro w'
                                      go_simp
                                      with_reducible rfl
                                    rotate_left
                                    · simp only [Act.put, List.setIfInBounds_toArray, List.set_cons_zero, List.set_cons_succ, i64_w, i32_w]
                                      rfl
                                    refine pure_ (i := 1) (N := some 40) (v := ?_) (a' := ?_) #[true, true, false, false, false, false, false, false, false, false, false, false] rfl rfl (any_of HT_.out (by kernel_rfl)) (fun _ _ _ h => h) (Or.inl ⟨by rfl, ?_⟩) ?_ ?_
                                    rotate_left
                                    · intro w'
                                      go_simp
                                      with_reducible rfl
                                    rotate_left
                                    · simp only [Act.put, List.setIfInBounds_toArray, List.set_cons_zero, List.set_cons_succ, i64_w, i32_w]
                                      rfl
                                    refine pure_ (i := 5) (N := some 44) (v := ?_) (a' := ?_) #[true, true, false, false, false, true, false, false, false, false, false, false] rfl rfl (any_of HT_.out (by kernel_rfl)) (fun _ _ _ h => h) (Or.inl ⟨by rfl, ?_⟩) ?_ ?_
                                    rotate_left
                                    · intro w'
                                      go_simp
                                      with_reducible rfl
                                    rotate_left
                                    · simp only [Act.put, List.setIfInBounds_toArray, List.set_cons_zero, List.set_cons_succ, i64_w, i32_w]
                                      rfl
                                    refine pure_ (i := 9) (N := some 48) (v := ?_) (a' := ?_) #[true, true, false, false, false, true, false, false, false, true, false, false] rfl rfl (any_of HT_.out (by kernel_rfl)) (fun _ _ _ h => h) (Or.inl ⟨by rfl, ?_⟩) ?_ ?_
                                    rotate_left
                                    · intro w'
                                      go_simp
                                      with_reducible rfl
                                    rotate_left
                                    · simp only [Act.put, List.setIfInBounds_toArray, List.set_cons_zero, List.set_cons_succ, i64_w, i32_w]
                                      rfl
                                    refine take_ (i := 2) (N := some 41) (v := ?_) (a' := ?_) #[true, true, true, false, false, true, false, false, false, true, false, false] rfl rfl (take_ofW HT_.out HW_.out (by kernel_rfl)) (fun _ _ _ h => h) (Or.inl ⟨by rfl, ?_⟩) hHeld ?_ ?_
                                    rotate_left
                                    · rintro w' ⟨s0, s1, s2, s3, s4, s5⟩
                                      go_simp
                                      with_reducible rfl
                                    rotate_left
                                    · simp only [Act.put, List.setIfInBounds_toArray, List.set_cons_zero, List.set_cons_succ, i64_w, i32_w]
                                      rfl
                                    refine pure_ (i := 3) (N := some 42) (v := ?_) (a' := ?_) #[true, true, true, true, false, true, false, false, false, true, false, false] rfl rfl (any_of HT_.out (by kernel_rfl)) (fun _ _ _ h => h) (Or.inl ⟨by rfl, ?_⟩) ?_ ?_
                                    rotate_left
                                    · intro w'
                                      go_simp
                                      with_reducible rfl
                                    rotate_left
                                    · simp only [Act.put, List.setIfInBounds_toArray, List.set_cons_zero, List.set_cons_succ, i64_w, i32_w]
                                      rfl
                                    refine take_ (i := 4) (N := some 43) (v := ?_) (a' := ?_) #[true, true, true, true, true, true, false, false, false, true, false, false] rfl rfl (take_ofW HT_.out HW_.out (by kernel_rfl)) (fun _ _ _ h => h) (Or.inl ⟨by rfl, ?_⟩) hHeld ?_ ?_
                                    rotate_left
                                    · rintro w' ⟨s0, s1, s2, s3, s4, s5⟩
                                      go_simp
                                      with_reducible rfl
                                    rotate_left
                                    · simp only [Act.put, List.setIfInBounds_toArray, List.set_cons_zero, List.set_cons_succ, i64_w, i32_w]
                                      rfl
                                    refine take_ (i := 6) (N := some 45) (v := ?_) (a' := ?_) #[true, true, true, true, true, true, true, false, false, true, false, false] rfl rfl (take_ofW HT_.out HW_.out (by kernel_rfl)) (fun _ _ _ h => h) (Or.inl ⟨by rfl, ?_⟩) hHeld ?_ ?_
                                    rotate_left
                                    · rintro w' ⟨s0, s1, s2, s3, s4, s5⟩
                                      go_simp
                                      with_reducible rfl
                                    rotate_left
                                    · simp only [Act.put, List.setIfInBounds_toArray, List.set_cons_zero, List.set_cons_succ, i64_w, i32_w]
                                      rfl
                                    refine pure_ (i := 7) (N := some 46) (v := ?_) (a' := ?_) #[true, true, true, true, true, true, true, true, false, true, false, false] rfl rfl (any_of HT_.out (by kernel_rfl)) (fun _ _ _ h => h) (Or.inl ⟨by rfl, ?_⟩) ?_ ?_
                                    rotate_left
                                    · intro w'
                                      go_simp
                                      with_reducible rfl
                                    rotate_left
                                    · simp only [Act.put, List.setIfInBounds_toArray, List.set_cons_zero, List.set_cons_succ, i64_w, i32_w]
                                      rfl
                                    refine take_ (i := 8) (N := some 47) (v := ?_) (a' := ?_) #[true, true, true, true, true, true, true, true, true, true, false, false] rfl rfl (take_ofW HT_.out HW_.out (by kernel_rfl)) (fun _ _ _ h => h) (Or.inl ⟨by rfl, ?_⟩) hHeld ?_ ?_
                                    rotate_left
                                    · rintro w' ⟨s0, s1, s2, s3, s4, s5⟩
                                      go_simp
                                      with_reducible rfl
                                    rotate_left
                                    · simp only [Act.put, List.setIfInBounds_toArray, List.set_cons_zero, List.set_cons_succ, i64_w, i32_w]
                                      rfl
                                    refine take_ (i := 10) (N := some 49) (v := ?_) (a' := ?_) #[true, true, true, true, true, true, true, true, true, true, true, false] rfl rfl (take_ofW HT_.out HW_.out (by kernel_rfl)) (fun _ _ _ h => h) (Or.inl ⟨by rfl, ?_⟩) hHeld ?_ ?_
                                    rotate_left
                                    · rintro w' ⟨s0, s1, s2, s3, s4, s5⟩
                                      go_simp
                                      with_reducible rfl
                                    rotate_left
                                    · simp only [Act.put, List.setIfInBounds_toArray, List.set_cons_zero, List.set_cons_succ, i64_w, i32_w]
                                      rfl
                                    refine pure_ (i := 11) (N := some 50) (v := ?_) (a' := ?_) #[true, true, true, true, true, true, true, true, true, true, true, true] rfl rfl (any_of HT_.out (by kernel_rfl)) (fun _ _ _ h => h) (Or.inl ⟨by rfl, ?_⟩) ?_ ?_
                                    rotate_left
                                    · intro w'
                                      go_simp
                                      with_reducible rfl
                                    rotate_left
                                    · simp only [Act.put, List.setIfInBounds_toArray, List.set_cons_zero, List.set_cons_succ, i64_w, i32_w]
                                      rfl
                                    refine done_ (done_of HT_.out (by kernel_rfl)) ?_
                                    try go_wp2
                                    have n0_ := Aside0.mk (Kd.S_drew HO_7.out)
                                    have n1_ := Aside0.mk (Kd.R_drew HL714_0.out)
                                    have n2_ := Aside0.mk (blk_drew BK713.out)
                                    have n3_ := Aside0.mk (Kd.C_drew HR714_0.out)
                                    have n4_ := Aside0.mk (below_drew1 HB.out)
                                    clear HO_7
                                    clear HL714_0
                                    clear BK713
                                    clear HR714_0
                                    clear HB
                                    have HO_7 := n0_
                                    have HL714_0 := n1_
                                    have BK713 := n2_
                                    have HR714_0 := n3_
                                    have HB := n4_
                                    clear n0_ n1_ n2_ n3_ n4_
                                    have p716 : 0 ≤ (((rd_T24 l1 x8_2).f1) : Int) := of_decide_eq_true (by first | (with_reducible assumption) | assumption)
                                    have q716 : ((rd_T24 l1 x8_2).f1) < (x7_2.length : Int) := of_decide_eq_true (by first | (with_reducible assumption) | assumption)
                                    obtain ⟨ad716, A716_0, c716_0, e716, hx716_0, hl716_0, hi716_0⟩ := at_L1 (Kd.S_reads' HO_7.out).2.2 ((rd_T24 l1 x8_2).f1) p716 q716
                                    obtain rfl : ad714 = ad716 := (by injection e716)
                                    obtain ⟨ce716, hce716, hMe716, hcc716⟩ := Kd.S_get HO_7.out [] ((rd_T24 l1 x8_2).f1) p716 (by first | exact q716 | exact of_decide_eq_true (by first | (with_reducible assumption) | assumption) | (have e_ := (Kd.S_reads' HO_7.out).1; omega))
                                    obtain ⟨ve716_0, rfl, ge716_0⟩ := hMe716
                                    have hv716_0 := hcc716 0 _ rfl
                                    rw [Nat.add_zero, show ((Kd.slice 3 (Kd.int .i64))).sz = 1 from rfl, Nat.mul_one] at hv716_0
                                    replace hv716_0 := Option.some.inj (hv716_0.symm.trans hx716_0)
                                    rw [hv716_0] at ge716_0
                                    have HL716_0 := Aside0.mk (show Kd.R (Kd.int .i64) 3 _ _ _ _ (rd_L1 x7_2 ((rd_T24 l1 x8_2).f1)) from ge716_0)
                                    clear hv716_0 ge716_0
                                    have HX716_0 := Aside0.mk hx716_0
                                    clear hcc716 hce716
                                    have HR716_0 := Aside0.mk hi716_0
                                    have HC716_0 := Aside0.mk hl716_0
                                    clear hi716_0 hl716_0
                                    replace p716 := eq_true p716
                                    replace q716 := eq_true q716
                                    have p717 : 0 ≤ (((rd_T24 l1 x8_2).f2) : Int) := of_decide_eq_true (by first | (with_reducible assumption) | assumption)
                                    have q717 : ((rd_T24 l1 x8_2).f2) < ((rd_L1 x7_2 ((rd_T24 l1 x8_2).f1)).length : Int) := of_decide_eq_true (by first | (with_reducible assumption) | assumption)
                                    obtain ⟨ad717, e717, hx717_0⟩ := Kd.at_int (by repeat (first | (with_reducible exact HR716_0.out) | (with_reducible refine Kd.C_alloc ?_ _) | (with_reducible refine Kd.C_drewN ?_ _) | (with_reducible refine Kd.C_drew ?_) | exact HR716_0.out)) ((rd_T24 l1 x8_2).f2) p717 q717
                                    cases e717
                                    replace p717 := eq_true p717
                                    replace q717 := eq_true q717
                                    refine start_ (n := 13) (S := fun w' => w'.cell? ⟨gb713, 0, none⟩ = some (.int .i64 ((rd_T24 l1 x8_2).f0)) ∧ w'.cell? ⟨gb713, 1, none⟩ = some (.int .i64 ((rd_T24 l1 x8_2).f1)) ∧ w'.cell? ⟨gb713, 2, none⟩ = some (.int .i64 ((rd_T24 l1 x8_2).f2)) ∧ w'.cell? ⟨gb713, 3, none⟩ = some (.int .i64 ((rd_T24 l1 x8_2).f3)) ∧ w'.cell? (ad714.add (((rd_T24 l1 x8_2).f1)).toNat) = some (.slice (some ad717) (rd_L1 x7_2 ((rd_T24 l1 x8_2).f1)).length c716_0) ∧ w'.cell? (ad717.add (((rd_T24 l1 x8_2).f2)).toNat) = some (.int .i64 (rd (rd_L1 x7_2 ((rd_T24 l1 x8_2).f1)) ((rd_T24 l1 x8_2).f2)))) (ds := []) #[false, false, false, false, false, false, false, false, false, false, false, false, false] (by kernel_rfl) rfl rfl ⟨(blk_cell BK713.out 0).trans rfl, (blk_cell BK713.out 1).trans rfl, (blk_cell BK713.out 2).trans rfl, (blk_cell BK713.out 3).trans rfl, hx716_0, hx717_0⟩ (fun hHeld => ?_); refine with_tabW kinkeepref35_Apply.tab15 kinkeepref35_Apply.bits15 (fun HT_ HW_ => ?_)
                                    generalize w32.drew = w34 at HO_7 HL714_0 BK713 HR714_0 HB HL716_0 HR716_0 HX716_0 hx716_0 hx717_0 hHeld ⊢
                                    refine pure_ (i := 0) (N := some 51) (v := ?_) (a' := ?_) #[true, false, false, false, false, false, false, false, false, false, false, false, false] rfl rfl (any_of HT_.out (by kernel_rfl)) (fun _ _ _ h => h) (Or.inl ⟨by rfl, ?_⟩) ?_ ?_
                                    rotate_left
                                    · intro w'
                                      go_simp
                                      with_reducible rfl
                                    rotate_left
                                    · simp only [Act.put, List.setIfInBounds_toArray, List.set_cons_zero, List.set_cons_succ, i64_w, i32_w]
                                      rfl
                                    refine pure_ (i := 1) (N := some 52) (v := ?_) (a' := ?_) #[true, true, false, false, false, false, false, false, false, false, false, false, false] rfl rfl (any_of HT_.out (by kernel_rfl)) (fun _ _ _ h => h) (Or.inl ⟨by rfl, ?_⟩) ?_ ?_
                                    rotate_left
                                    · intro w'
                                      go_simp
                                      with_reducible rfl
                                    rotate_left
                                    · simp only [Act.put, List.setIfInBounds_toArray, List.set_cons_zero, List.set_cons_succ, i64_w, i32_w]
                                      rfl
                                    refine pure_ (i := 5) (N := some 56) (v := ?_) (a' := ?_) #[true, true, false, false, false, true, false, false, false, false, false, false, false] rfl rfl (any_of HT_.out (by kernel_rfl)) (fun _ _ _ h => h) (Or.inl ⟨by rfl, ?_⟩) ?_ ?_
                                    rotate_left
                                    · intro w'
                                      go_simp
                                      with_reducible rfl
                                    rotate_left
                                    · simp only [Act.put, List.setIfInBounds_toArray, List.set_cons_zero, List.set_cons_succ, i64_w, i32_w]
                                      rfl
                                    refine pure_ (i := 9) (N := some 60) (v := ?_) (a' := ?_) #[true, true, false, false, false, true, false, false, false, true, false, false, false] rfl rfl (any_of HT_.out (by kernel_rfl)) (fun _ _ _ h => h) (Or.inl ⟨by rfl, ?_⟩) ?_ ?_
                                    rotate_left
                                    · intro w'
                                      go_simp
                                      with_reducible rfl
                                    rotate_left
                                    · simp only [Act.put, List.setIfInBounds_toArray, List.set_cons_zero, List.set_cons_succ, i64_w, i32_w]
                                      rfl
                                    refine take_ (i := 2) (N := some 53) (v := ?_) (a' := ?_) #[true, true, true, false, false, true, false, false, false, true, false, false, false] rfl rfl (take_ofW HT_.out HW_.out (by kernel_rfl)) (fun _ _ _ h => h) (Or.inl ⟨by rfl, ?_⟩) hHeld ?_ ?_
                                    rotate_left
                                    · rintro w' ⟨s0, s1, s2, s3, s4, s5⟩
                                      go_simp
                                      with_reducible rfl
                                    rotate_left
                                    · simp only [Act.put, List.setIfInBounds_toArray, List.set_cons_zero, List.set_cons_succ, i64_w, i32_w]
                                      rfl
                                    refine pure_ (i := 3) (N := some 54) (v := ?_) (a' := ?_) #[true, true, true, true, false, true, false, false, false, true, false, false, false] rfl rfl (any_of HT_.out (by kernel_rfl)) (fun _ _ _ h => h) (Or.inl ⟨by rfl, ?_⟩) ?_ ?_
                                    rotate_left
                                    · intro w'
                                      go_simp
                                      with_reducible rfl
                                    rotate_left
                                    · simp only [Act.put, List.setIfInBounds_toArray, List.set_cons_zero, List.set_cons_succ, i64_w, i32_w]
                                      rfl
                                    refine take_ (i := 4) (N := some 55) (v := ?_) (a' := ?_) #[true, true, true, true, true, true, false, false, false, true, false, false, false] rfl rfl (take_ofW HT_.out HW_.out (by kernel_rfl)) (fun _ _ _ h => h) (Or.inl ⟨by rfl, ?_⟩) hHeld ?_ ?_
                                    rotate_left
                                    · rintro w' ⟨s0, s1, s2, s3, s4, s5⟩
                                      go_simp
                                      with_reducible rfl
                                    rotate_left
                                    · simp only [Act.put, List.setIfInBounds_toArray, List.set_cons_zero, List.set_cons_succ, i64_w, i32_w]
                                      rfl
                                    refine take_ (i := 6) (N := some 57) (v := ?_) (a' := ?_) #[true, true, true, true, true, true, true, false, false, true, false, false, false] rfl rfl (take_ofW HT_.out HW_.out (by kernel_rfl)) (fun _ _ _ h => h) (Or.inl ⟨by rfl, ?_⟩) hHeld ?_ ?_
                                    rotate_left
                                    · rintro w' ⟨s0, s1, s2, s3, s4, s5⟩
                                      go_simp
                                      with_reducible rfl
                                    rotate_left
                                    · simp only [Act.put, List.setIfInBounds_toArray, List.set_cons_zero, List.set_cons_succ, i64_w, i32_w]
                                      rfl
                                    refine pure_ (i := 7) (N := some 58) (v := ?_) (a' := ?_) #[true, true, true, true, true, true, true, true, false, true, false, false, false] rfl rfl (any_of HT_.out (by kernel_rfl)) (fun _ _ _ h => h) (Or.inl ⟨by rfl, ?_⟩) ?_ ?_
                                    rotate_left
                                    · intro w'
                                      go_simp
                                      with_reducible rfl
                                    rotate_left
                                    · simp only [Act.put, List.setIfInBounds_toArray, List.set_cons_zero, List.set_cons_succ, i64_w, i32_w]
                                      rfl
                                    refine take_ (i := 8) (N := some 59) (v := ?_) (a' := ?_) #[true, true, true, true, true, true, true, true, true, true, false, false, false] rfl rfl (take_ofW HT_.out HW_.out (by kernel_rfl)) (fun _ _ _ h => h) (Or.inl ⟨by rfl, ?_⟩) hHeld ?_ ?_
                                    rotate_left
                                    · rintro w' ⟨s0, s1, s2, s3, s4, s5⟩
                                      go_simp
                                      with_reducible rfl
                                    rotate_left
                                    · simp only [Act.put, List.setIfInBounds_toArray, List.set_cons_zero, List.set_cons_succ, i64_w, i32_w]
                                      rfl
                                    refine take_ (i := 10) (N := some 61) (v := ?_) (a' := ?_) #[true, true, true, true, true, true, true, true, true, true, true, false, false] rfl rfl (take_ofW HT_.out HW_.out (by kernel_rfl)) (fun _ _ _ h => h) (Or.inl ⟨by rfl, ?_⟩) hHeld ?_ ?_
                                    rotate_left
                                    · rintro w' ⟨s0, s1, s2, s3, s4, s5⟩
                                      go_simp
                                      with_reducible rfl
                                    rotate_left
                                    · simp only [Act.put, List.setIfInBounds_toArray, List.set_cons_zero, List.set_cons_succ, i64_w, i32_w]
                                      rfl
                                    refine pure_ (i := 11) (N := some 62) (v := ?_) (a' := ?_) #[true, true, true, true, true, true, true, true, true, true, true, true, false] rfl rfl (any_of HT_.out (by kernel_rfl)) (fun _ _ _ h => h) (Or.inl ⟨by rfl, ?_⟩) ?_ ?_
                                    rotate_left
                                    · intro w'
                                      go_simp
                                      with_reducible rfl
                                    rotate_left
                                    · simp only [Act.put, List.setIfInBounds_toArray, List.set_cons_zero, List.set_cons_succ, i64_w, i32_w]
                                      rfl
                                    refine pure_ (i := 12) (N := some 63) (v := ?_) (a' := ?_) #[true, true, true, true, true, true, true, true, true, true, true, true, true] rfl rfl (any_of HT_.out (by kernel_rfl)) (fun _ _ _ h => h) (Or.inl ⟨by rfl, ?_⟩) ?_ ?_
                                    rotate_left
                                    · intro w'
                                      go_simp
                                      with_reducible rfl
                                    rotate_left
                                    · simp only [Act.put, List.setIfInBounds_toArray, List.set_cons_zero, List.set_cons_succ, i64_w, i32_w]
                                      rfl
                                    refine done_ (done_of HT_.out (by kernel_rfl)) ?_
                                    try go_wp2
                                    go_ret2
                                    exact ⟨_, by first | rfl | (simp [errW_none, errW_some] <;> rfl) | (simp [*, errW_none, errW_some] <;> rfl), by first | exact Kd.S_nil _ _ _ _ _ | exact Kd.N_nil _ _ _ _ _ | exact Kd.V_nil _ _ _ _ _ | exact Kd.Q_nil _ _ _ _ _ | exact Kd.R_nil _ _ _ _ _, by repeat (first | (with_reducible first | exact HB.out | apply below_alloc | apply pw_below_drewN | apply below_drew1 | refine below_set ?_ GE713.out) | exact HB.out)⟩
                                  · rw [if_neg c28] at H
                                    have c28b0 : decide (1099511627776 < (wrap64 ((rd (rd_L1 x7_2 ((rd_T24 l1 x8_2).f1)) ((rd_T24 l1 x8_2).f2)) + ((rd_T24 l1 x8_2).f3)))) = false := decide_eq_false c28
                                    clear c28
                                    obtain ⟨y720, hy720⟩ : ∃ y_ : List Int, y_ = ((rd_L1 x7_2 ((rd_T24 l1 x8_2).f0)).set (((rd_T24 l1 x8_2).f2) : Int).toNat (wrap64 ((rd (rd_L1 x7_2 ((rd_T24 l1 x8_2).f0)) ((rd_T24 l1 x8_2).f2)) - ((rd_T24 l1 x8_2).f3)))) := ⟨_, rfl⟩
                                    replace H : ((some (x7_2.set (((rd_T24 l1 x8_2).f0) : Int).toNat y720 : List (List Int))).bind fun y722 => (if ((rd_T24 l1 x8_2).f2) < ((rd_L1 y722 ((rd_T24 l1 x8_2).f1)).length : Int) then (kinkeepref35_Apply.l1 k2 l1 (y722.set (((rd_T24 l1 x8_2).f1) : Int).toNat ((rd_L1 y722 ((rd_T24 l1 x8_2).f1)).set (((rd_T24 l1 x8_2).f2) : Int).toNat (wrap64 ((rd (rd_L1 y722 ((rd_T24 l1 x8_2).f1)) ((rd_T24 l1 x8_2).f2)) + ((rd_T24 l1 x8_2).f3))))) (wrap64 (x8_2 + 1))) else (none))) = some (r1, r2) := by first | (rw [hy720]; with_reducible exact H) | (have H2_ := (Option.bind_some _ _).symm.trans H; rw [hy720]; with_reducible exact H2_) | (have H2_ := (Option.bind_some _ _).symm.trans H; with_reducible exact H2_) | with_reducible exact H | (rw [hy720]; exact H) | exact H
                                    have Ny720 := Aside0.mk hy720
                                    clear hy720
                                    obtain ⟨y722, hy722⟩ : ∃ y_ : List (List Int), y_ = (x7_2.set (((rd_T24 l1 x8_2).f0) : Int).toNat y720) := ⟨_, rfl⟩
                                    replace H : (if ((rd_T24 l1 x8_2).f2) < ((rd_L1 y722 ((rd_T24 l1 x8_2).f1)).length : Int) then (kinkeepref35_Apply.l1 k2 l1 (y722.set (((rd_T24 l1 x8_2).f1) : Int).toNat ((rd_L1 y722 ((rd_T24 l1 x8_2).f1)).set (((rd_T24 l1 x8_2).f2) : Int).toNat (wrap64 ((rd (rd_L1 y722 ((rd_T24 l1 x8_2).f1)) ((rd_T24 l1 x8_2).f2)) + ((rd_T24 l1 x8_2).f3))))) (wrap64 (x8_2 + 1))) else (none)) = some (r1, r2) := by first | (rw [hy722]; with_reducible exact H) | (have H2_ := (Option.bind_some _ _).symm.trans H; rw [hy722]; with_reducible exact H2_) | (have H2_ := (Option.bind_some _ _).symm.trans H; with_reducible exact H2_) | with_reducible exact H | (rw [hy722]; exact H) | exact H
                                    have Ny722 := Aside0.mk hy722
                                    clear hy722
                                    by_cases c36 : ((rd_T24 l1 x8_2).f2) < ((rd_L1 y722 ((rd_T24 l1 x8_2).f1)).length : Int)
                                    · rw [if_pos c36] at H
                                      have c36b0 : decide (((rd_T24 l1 x8_2).f2) < ((rd_L1 y722 ((rd_T24 l1 x8_2).f1)).length : Int)) = true := decide_eq_true c36
                                      clear c36
                                      obtain ⟨y725, hy725⟩ : ∃ y_ : List Int, y_ = ((rd_L1 y722 ((rd_T24 l1 x8_2).f1)).set (((rd_T24 l1 x8_2).f2) : Int).toNat (wrap64 ((rd (rd_L1 y722 ((rd_T24 l1 x8_2).f1)) ((rd_T24 l1 x8_2).f2)) + ((rd_T24 l1 x8_2).f3)))) := ⟨_, rfl⟩
                                      replace H : (kinkeepref35_Apply.l1 k2 l1 (y722.set (((rd_T24 l1 x8_2).f1) : Int).toNat y725) (wrap64 (x8_2 + 1))) = some (r1, r2) := by first | (rw [hy725]; with_reducible exact H) | (have H2_ := (Option.bind_some _ _).symm.trans H; rw [hy725]; with_reducible exact H2_) | (have H2_ := (Option.bind_some _ _).symm.trans H; with_reducible exact H2_) | with_reducible exact H | (rw [hy725]; exact H) | exact H
                                      have Ny725 := Aside0.mk hy725
                                      clear hy725
                                      obtain ⟨y727, hy727⟩ : ∃ y_ : List (List Int), y_ = (y722.set (((rd_T24 l1 x8_2).f1) : Int).toNat y725) := ⟨_, rfl⟩
                                      replace H : (kinkeepref35_Apply.l1 k2 l1 y727 (wrap64 (x8_2 + 1))) = some (r1, r2) := by first | (rw [hy727]; with_reducible exact H) | (have H2_ := (Option.bind_some _ _).symm.trans H; rw [hy727]; with_reducible exact H2_) | (have H2_ := (Option.bind_some _ _).symm.trans H; with_reducible exact H2_) | with_reducible exact H | (rw [hy727]; exact H) | exact H
                                      have Ny727 := Aside0.mk hy727
                                      clear hy727
                                      have H' := Aside0.mk H
                                      clear H
                                      have p712 : 0 ≤ (x8_2 : Int) := of_decide_eq_true (by first | (with_reducible assumption) | assumption)
                                      have q712 : x8_2 < (l1.length : Int) := of_decide_eq_true (by first | (with_reducible assumption) | assumption)
                                      obtain ⟨ad712, e712, hx712_0, hx712_1, hx712_2, hx712_3⟩ := at_T24 HR1.out x8_2 p712 q712
                                      cases e712
                                      replace hx712_0 := (HB.out.cell (World.block_lt_of_cell? w _ hx712_0)).trans hx712_0
                                      replace hx712_1 := (HB.out.cell (World.block_lt_of_cell? w _ hx712_1)).trans hx712_1
                                      replace hx712_2 := (HB.out.cell (World.block_lt_of_cell? w _ hx712_2)).trans hx712_2
                                      replace hx712_3 := (HB.out.cell (World.block_lt_of_cell? w _ hx712_3)).trans hx712_3
                                      replace p712 := eq_true p712
                                      replace q712 := eq_true q712
                                      try go_wp2_with (first | ((with_reducible refine gate_dst (N := 9) rfl ?_); refine box_event ?hg (N := 9) ?hd (cs := #[.int .i64 0, .int .i64 0, .int .i64 0, .int .i64 0]) (t := 24) ?hr ?_; (case hd => rfl); (case hg => rfl); (case hr => first | (go_simp; done) | (go_simp; rfl)); intro gb713 hg w38 hbox hb; have n0_ := Aside0.mk (Kd.S_below (by (with_reducible repeat (first | apply Kd.S_alloc | apply Kd.S_drewN | apply Kd.S_drew)); exact HO_7.out) hb); have n1_ := Aside0.mk (below_step (by repeat (first | (with_reducible first | exact HB.out | apply below_alloc | apply pw_below_drewN | apply below_drew1) | exact HB.out)) hb); have n2_ := Aside0.mk (hbox); have n3_ := Aside0.mk ((by rw [hg]; exact (below_size (by repeat (first | (with_reducible first | exact HB.out | apply below_alloc | apply pw_below_drewN | apply below_drew1) | exact HB.out))) : w.heap.size ≤ gb713)); have n4_ := Aside0.mk ((by rw [hg]; exact (below_size (by repeat (first | (with_reducible first | exact HB.out | apply below_alloc | apply pw_below_drewN | apply below_drew1) | exact HB.out))) : w.heap.size ≤ gb713)); clear HO_7; clear HB; have HO_7 := n0_; have HB := n1_; have BK713 := n2_; have GW713 := n3_; have GE713 := n4_; clear n0_ n1_ n2_ n3_ n4_; clear hb hbox hg; have hcz39_0 : w38.cell? ⟨gb713, 0, none⟩ = some (.int .i64 0) := (blk_cell BK713.out 0).trans rfl; have hcz39_1 : w38.cell? ⟨gb713, 1, none⟩ = some (.int .i64 0) := (blk_cell BK713.out 1).trans rfl; have hcz39_2 : w38.cell? ⟨gb713, 2, none⟩ = some (.int .i64 0) := (blk_cell BK713.out 2).trans rfl; have hcz39_3 : w38.cell? ⟨gb713, 3, none⟩ = some (.int .i64 0) := (blk_cell BK713.out 3).trans rfl; have hfz39_0 := blk_frozen BK713.out 0; have hfz39_1 := blk_frozen BK713.out 1; have hfz39_2 := blk_frozen BK713.out 2; have hfz39_3 := blk_frozen BK713.out 3))
                                      have n0_ : Aside0 (Kd.S (Kd.slice 3 (Kd.int .i64)) 31 ((((w38.setCell ⟨gb713, 0, none⟩ (.int .i64 ((rd_T24 l1 x8_2).f0))).setCell ⟨gb713, 1, none⟩ (.int .i64 ((rd_T24 l1 x8_2).f1))).setCell ⟨gb713, 2, none⟩ (.int .i64 ((rd_T24 l1 x8_2).f2))).setCell ⟨gb713, 3, none⟩ (.int .i64 ((rd_T24 l1 x8_2).f3))) w.heap.size (fun _ => True) v710 x7_2) := ⟨by (with_reducible repeat (first | apply Kd.S_alloc | apply Kd.S_drewN | apply Kd.S_drew)); exact Kd.S_mono (Kd.S_far (p := ⟨gb713, 3, none⟩) (Kd.S_far (p := ⟨gb713, 2, none⟩) (Kd.S_far (p := ⟨gb713, 1, none⟩) (Kd.S_far (p := ⟨gb713, 0, none⟩) (Kd.S_types HO_7.out BK713.out (by decide)) (fun _ hk => hk.2) (.int .i64 ((rd_T24 l1 x8_2).f0))) (fun _ hk => hk.2) (.int .i64 ((rd_T24 l1 x8_2).f1))) (fun _ hk => hk.2) (.int .i64 ((rd_T24 l1 x8_2).f2))) (fun _ hk => hk.2) (.int .i64 ((rd_T24 l1 x8_2).f3))) (fun _ hk => trivial)⟩
                                      have n1_ : Aside0 (((((w38.setCell ⟨gb713, 0, none⟩ (.int .i64 ((rd_T24 l1 x8_2).f0))).setCell ⟨gb713, 1, none⟩ (.int .i64 ((rd_T24 l1 x8_2).f1))).setCell ⟨gb713, 2, none⟩ (.int .i64 ((rd_T24 l1 x8_2).f2))).setCell ⟨gb713, 3, none⟩ (.int .i64 ((rd_T24 l1 x8_2).f3))).heap[gb713]? = some (.cells #[.int .i64 ((rd_T24 l1 x8_2).f0), .int .i64 ((rd_T24 l1 x8_2).f1), .int .i64 ((rd_T24 l1 x8_2).f2), .int .i64 ((rd_T24 l1 x8_2).f3)] 24 (0, 0))) := ⟨by (with_reducible repeat (first | refine blk_drewN ?_ _ | refine blk_drew ?_ | refine blk_alloc ?_ _)); refine blk_put (cs := #[.int .i64 ((rd_T24 l1 x8_2).f0), .int .i64 ((rd_T24 l1 x8_2).f1), .int .i64 ((rd_T24 l1 x8_2).f2), .int .i64 0]) ?_ 3 _ rfl; (with_reducible repeat (first | refine blk_drewN ?_ _ | refine blk_drew ?_ | refine blk_alloc ?_ _)); refine blk_put (cs := #[.int .i64 ((rd_T24 l1 x8_2).f0), .int .i64 ((rd_T24 l1 x8_2).f1), .int .i64 0, .int .i64 0]) ?_ 2 _ rfl; (with_reducible repeat (first | refine blk_drewN ?_ _ | refine blk_drew ?_ | refine blk_alloc ?_ _)); refine blk_put (cs := #[.int .i64 ((rd_T24 l1 x8_2).f0), .int .i64 0, .int .i64 0, .int .i64 0]) ?_ 1 _ rfl; (with_reducible repeat (first | refine blk_drewN ?_ _ | refine blk_drew ?_ | refine blk_alloc ?_ _)); refine blk_put (cs := #[.int .i64 0, .int .i64 0, .int .i64 0, .int .i64 0]) ?_ 0 _ rfl; (with_reducible repeat (first | refine blk_drewN ?_ _ | refine blk_drew ?_ | refine blk_alloc ?_ _)); exact BK713.out⟩
                                      have n2_ : Aside0 (Below w.heap.size w ((((w38.setCell ⟨gb713, 0, none⟩ (.int .i64 ((rd_T24 l1 x8_2).f0))).setCell ⟨gb713, 1, none⟩ (.int .i64 ((rd_T24 l1 x8_2).f1))).setCell ⟨gb713, 2, none⟩ (.int .i64 ((rd_T24 l1 x8_2).f2))).setCell ⟨gb713, 3, none⟩ (.int .i64 ((rd_T24 l1 x8_2).f3)))) := ⟨by repeat (first | (with_reducible first | exact HB.out | apply below_alloc | apply pw_below_drewN | apply below_drew1 | refine below_set ?_ GE713.out) | exact HB.out)⟩
                                      (try clear HO_7)
                                      (try clear BK713)
                                      (try clear HB)
                                      generalize ((((w38.setCell ⟨gb713, 0, none⟩ (.int .i64 ((rd_T24 l1 x8_2).f0))).setCell ⟨gb713, 1, none⟩ (.int .i64 ((rd_T24 l1 x8_2).f1))).setCell ⟨gb713, 2, none⟩ (.int .i64 ((rd_T24 l1 x8_2).f2))).setCell ⟨gb713, 3, none⟩ (.int .i64 ((rd_T24 l1 x8_2).f3))) = w40 at n0_ n1_ n2_ ⊢
                                      have HO_7 := n0_
                                      have BK713 := n1_
                                      have HB := n2_
                                      clear n0_ n1_ n2_
                                      have n0_ := Aside0.mk (Kd.S_drew HO_7.out)
                                      have n1_ := Aside0.mk (blk_drew BK713.out)
                                      have n2_ := Aside0.mk (below_drew1 HB.out)
                                      clear HO_7
                                      clear BK713
                                      clear HB
                                      have HO_7 := n0_
                                      have BK713 := n1_
                                      have HB := n2_
                                      clear n0_ n1_ n2_
                                      obtain ⟨Ao42, co42, eo42⟩ := Kd.S_slice HO_7.out
                                      (first | subst eo42 | (injection eo42 with f1_ f2_ f3_; have f4_ := f1_.symm; have f5_ := f3_.symm; clear f1_ f2_ f3_; subst f4_; subst f5_))
                                      have p714 : 0 ≤ (((rd_T24 l1 x8_2).f0) : Int) := of_decide_eq_true (by first | (with_reducible assumption) | assumption)
                                      have q714 : ((rd_T24 l1 x8_2).f0) < (x7_2.length : Int) := of_decide_eq_true (by first | (with_reducible assumption) | assumption)
                                      obtain ⟨ad714, A714_0, c714_0, e714, hx714_0, hl714_0, hi714_0⟩ := at_L1 (Kd.S_reads' HO_7.out).2.2 ((rd_T24 l1 x8_2).f0) p714 q714
                                      cases e714
                                      obtain ⟨ce714, hce714, hMe714, hcc714⟩ := Kd.S_get HO_7.out [] ((rd_T24 l1 x8_2).f0) p714 (by first | exact q714 | exact of_decide_eq_true (by first | (with_reducible assumption) | assumption) | (have e_ := (Kd.S_reads' HO_7.out).1; omega))
                                      obtain ⟨ve714_0, rfl, ge714_0⟩ := hMe714
                                      have hv714_0 := hcc714 0 _ rfl
                                      rw [Nat.add_zero, show ((Kd.slice 3 (Kd.int .i64))).sz = 1 from rfl, Nat.mul_one] at hv714_0
                                      replace hv714_0 := Option.some.inj (hv714_0.symm.trans hx714_0)
                                      rw [hv714_0] at ge714_0
                                      have HL714_0 := Aside0.mk (show Kd.R (Kd.int .i64) 3 _ _ _ _ (rd_L1 x7_2 ((rd_T24 l1 x8_2).f0)) from ge714_0)
                                      clear hv714_0 ge714_0
                                      have HX714_0 := Aside0.mk hx714_0
                                      clear hcc714 hce714
                                      have HR714_0 := Aside0.mk hi714_0
                                      have HC714_0 := Aside0.mk hl714_0
                                      clear hi714_0 hl714_0
                                      replace p714 := eq_true p714
                                      replace q714 := eq_true q714
                                      have p715 : 0 ≤ (((rd_T24 l1 x8_2).f2) : Int) := of_decide_eq_true (by first | (with_reducible assumption) | assumption)
                                      have q715 : ((rd_T24 l1 x8_2).f2) < ((rd_L1 x7_2 ((rd_T24 l1 x8_2).f0)).length : Int) := of_decide_eq_true (by first | (with_reducible assumption) | assumption)
                                      obtain ⟨ad715, e715, hx715_0⟩ := Kd.at_int (by repeat (first | (with_reducible exact HR714_0.out) | (with_reducible refine Kd.C_alloc ?_ _) | (with_reducible refine Kd.C_drewN ?_ _) | (with_reducible refine Kd.C_drew ?_) | exact HR714_0.out)) ((rd_T24 l1 x8_2).f2) p715 q715
                                      cases e715
                                      replace p715 := eq_true p715
                                      replace q715 := eq_true q715
                                      refine start_ (n := 12) (S := fun w' => w'.cell? ⟨gb713, 0, none⟩ = some (.int .i64 ((rd_T24 l1 x8_2).f0)) ∧ w'.cell? ⟨gb713, 1, none⟩ = some (.int .i64 ((rd_T24 l1 x8_2).f1)) ∧ w'.cell? ⟨gb713, 2, none⟩ = some (.int .i64 ((rd_T24 l1 x8_2).f2)) ∧ w'.cell? ⟨gb713, 3, none⟩ = some (.int .i64 ((rd_T24 l1 x8_2).f3)) ∧ w'.cell? (ad714.add (((rd_T24 l1 x8_2).f0)).toNat) = some (.slice (some ad715) (rd_L1 x7_2 ((rd_T24 l1 x8_2).f0)).length c714_0) ∧ w'.cell? (ad715.add (((rd_T24 l1 x8_2).f2)).toNat) = some (.int .i64 (rd (rd_L1 x7_2 ((rd_T24 l1 x8_2).f0)) ((rd_T24 l1 x8_2).f2)))) (ds := []) #[false, false, false, false, false, false, false, false, false, false, false, false] (by kernel_rfl) rfl rfl ⟨(blk_cell BK713.out 0).trans rfl, (blk_cell BK713.out 1).trans rfl, (blk_cell BK713.out 2).trans rfl, (blk_cell BK713.out 3).trans rfl, hx714_0, hx715_0⟩ (fun hHeld => ?_); refine with_tabW kinkeepref35_Apply.tab13 kinkeepref35_Apply.bits13 (fun HT_ HW_ => ?_)
                                      generalize w40.drew = w41 at HO_7 BK713 HB HL714_0 HR714_0 HX714_0 hx714_0 hx715_0 hHeld ⊢
                                      refine pure_ (i := 0) (N := some 39) (v := ?_) (a' := ?_) #[true, false, false, false, false, false, false, false, false, false, false, false] rfl rfl (any_of HT_.out (by kernel_rfl)) (fun _ _ _ h => h) (Or.inl ⟨by rfl, ?_⟩) ?_ ?_
                                      rotate_left
                                      · intro w'
                                        go_simp
                                        with_reducible rfl
                                      rotate_left
                                      · simp only [Act.put, List.setIfInBounds_toArray, List.set_cons_zero, List.set_cons_succ, i64_w, i32_w]
                                        rfl
                                      refine pure_ (i := 1) (N := some 40) (v := ?_) (a' := ?_) #[true, true, false, false, false, false, false, false, false, false, false, false] rfl rfl (any_of HT_.out (by kernel_rfl)) (fun _ _ _ h => h) (Or.inl ⟨by rfl, ?_⟩) ?_ ?_
                                      rotate_left
                                      · intro w'
                                        go_simp
                                        with_reducible rfl
                                      rotate_left
                                      · simp only [Act.put, List.setIfInBounds_toArray, List.set_cons_zero, List.set_cons_succ, i64_w, i32_w]
                                        rfl
                                      refine pure_ (i := 5) (N := some 44) (v := ?_) (a' := ?_) #[true, true, false, false, false, true, false, false, false, false, false, false] rfl rfl (any_of HT_.out (by kernel_rfl)) (fun _ _ _ h => h) (Or.inl ⟨by rfl, ?_⟩) ?_ ?_
                                      rotate_left
                                      · intro w'
                                        go_simp
                                        with_reducible rfl
                                      rotate_left
                                      · simp only [Act.put, List.setIfInBounds_toArray, List.set_cons_zero, List.set_cons_succ, i64_w, i32_w]
                                        rfl
                                      refine pure_ (i := 9) (N := some 48) (v := ?_) (a' := ?_) #[true, true, false, false, false, true, false, false, false, true, false, false] rfl rfl (any_of HT_.out (by kernel_rfl)) (fun _ _ _ h => h) (Or.inl ⟨by rfl, ?_⟩) ?_ ?_
                                      rotate_left
                                      · intro w'
                                        go_simp
                                        with_reducible rfl
                                      rotate_left
                                      · simp only [Act.put, List.setIfInBounds_toArray, List.set_cons_zero, List.set_cons_succ, i64_w, i32_w]
                                        rfl
                                      refine take_ (i := 2) (N := some 41) (v := ?_) (a' := ?_) #[true, true, true, false, false, true, false, false, false, true, false, false] rfl rfl (take_ofW HT_.out HW_.out (by kernel_rfl)) (fun _ _ _ h => h) (Or.inl ⟨by rfl, ?_⟩) hHeld ?_ ?_
                                      rotate_left
                                      · rintro w' ⟨s0, s1, s2, s3, s4, s5⟩
                                        go_simp
                                        with_reducible rfl
                                      rotate_left
                                      · simp only [Act.put, List.setIfInBounds_toArray, List.set_cons_zero, List.set_cons_succ, i64_w, i32_w]
                                        rfl
                                      refine pure_ (i := 3) (N := some 42) (v := ?_) (a' := ?_) #[true, true, true, true, false, true, false, false, false, true, false, false] rfl rfl (any_of HT_.out (by kernel_rfl)) (fun _ _ _ h => h) (Or.inl ⟨by rfl, ?_⟩) ?_ ?_
                                      rotate_left
                                      · intro w'
                                        go_simp
                                        with_reducible rfl
                                      rotate_left
                                      · simp only [Act.put, List.setIfInBounds_toArray, List.set_cons_zero, List.set_cons_succ, i64_w, i32_w]
                                        rfl
                                      refine take_ (i := 4) (N := some 43) (v := ?_) (a' := ?_) #[true, true, true, true, true, true, false, false, false, true, false, false] rfl rfl (take_ofW HT_.out HW_.out (by kernel_rfl)) (fun _ _ _ h => h) (Or.inl ⟨by rfl, ?_⟩) hHeld ?_ ?_
                                      rotate_left
                                      · rintro w' ⟨s0, s1, s2, s3, s4, s5⟩
                                        go_simp
                                        with_reducible rfl
                                      rotate_left
                                      · simp only [Act.put, List.setIfInBounds_toArray, List.set_cons_zero, List.set_cons_succ, i64_w, i32_w]
                                        rfl
                                      refine take_ (i := 6) (N := some 45) (v := ?_) (a' := ?_) #[true, true, true, true, true, true, true, false, false, true, false, false] rfl rfl (take_ofW HT_.out HW_.out (by kernel_rfl)) (fun _ _ _ h => h) (Or.inl ⟨by rfl, ?_⟩) hHeld ?_ ?_
                                      rotate_left
                                      · rintro w' ⟨s0, s1, s2, s3, s4, s5⟩
                                        go_simp
                                        with_reducible rfl
                                      rotate_left
                                      · simp only [Act.put, List.setIfInBounds_toArray, List.set_cons_zero, List.set_cons_succ, i64_w, i32_w]
                                        rfl
                                      refine pure_ (i := 7) (N := some 46) (v := ?_) (a' := ?_) #[true, true, true, true, true, true, true, true, false, true, false, false] rfl rfl (any_of HT_.out (by kernel_rfl)) (fun _ _ _ h => h) (Or.inl ⟨by rfl, ?_⟩) ?_ ?_
                                      rotate_left
                                      · intro w'
                                        go_simp
                                        with_reducible rfl
                                      rotate_left
                                      · simp only [Act.put, List.setIfInBounds_toArray, List.set_cons_zero, List.set_cons_succ, i64_w, i32_w]
                                        rfl
                                      refine take_ (i := 8) (N := some 47) (v := ?_) (a' := ?_) #[true, true, true, true, true, true, true, true, true, true, false, false] rfl rfl (take_ofW HT_.out HW_.out (by kernel_rfl)) (fun _ _ _ h => h) (Or.inl ⟨by rfl, ?_⟩) hHeld ?_ ?_
                                      rotate_left
                                      · rintro w' ⟨s0, s1, s2, s3, s4, s5⟩
                                        go_simp
                                        with_reducible rfl
                                      rotate_left
                                      · simp only [Act.put, List.setIfInBounds_toArray, List.set_cons_zero, List.set_cons_succ, i64_w, i32_w]
                                        rfl
                                      refine take_ (i := 10) (N := some 49) (v := ?_) (a' := ?_) #[true, true, true, true, true, true, true, true, true, true, true, false] rfl rfl (take_ofW HT_.out HW_.out (by kernel_rfl)) (fun _ _ _ h => h) (Or.inl ⟨by rfl, ?_⟩) hHeld ?_ ?_
                                      rotate_left
                                      · rintro w' ⟨s0, s1, s2, s3, s4, s5⟩
                                        go_simp
                                        with_reducible rfl
                                      rotate_left
                                      · simp only [Act.put, List.setIfInBounds_toArray, List.set_cons_zero, List.set_cons_succ, i64_w, i32_w]
                                        rfl
                                      refine pure_ (i := 11) (N := some 50) (v := ?_) (a' := ?_) #[true, true, true, true, true, true, true, true, true, true, true, true] rfl rfl (any_of HT_.out (by kernel_rfl)) (fun _ _ _ h => h) (Or.inl ⟨by rfl, ?_⟩) ?_ ?_
                                      rotate_left
                                      · intro w'
                                        go_simp
                                        with_reducible rfl
                                      rotate_left
                                      · simp only [Act.put, List.setIfInBounds_toArray, List.set_cons_zero, List.set_cons_succ, i64_w, i32_w]
                                        rfl
                                      refine done_ (done_of HT_.out (by kernel_rfl)) ?_
                                      try go_wp2
                                      have n0_ := Aside0.mk (Kd.S_drew HO_7.out)
                                      have n1_ := Aside0.mk (Kd.R_drew HL714_0.out)
                                      have n2_ := Aside0.mk (blk_drew BK713.out)
                                      have n3_ := Aside0.mk (Kd.C_drew HR714_0.out)
                                      have n4_ := Aside0.mk (below_drew1 HB.out)
                                      clear HO_7
                                      clear HL714_0
                                      clear BK713
                                      clear HR714_0
                                      clear HB
                                      have HO_7 := n0_
                                      have HL714_0 := n1_
                                      have BK713 := n2_
                                      have HR714_0 := n3_
                                      have HB := n4_
                                      clear n0_ n1_ n2_ n3_ n4_
                                      have p716 : 0 ≤ (((rd_T24 l1 x8_2).f1) : Int) := of_decide_eq_true (by first | (with_reducible assumption) | assumption)
                                      have q716 : ((rd_T24 l1 x8_2).f1) < (x7_2.length : Int) := of_decide_eq_true (by first | (with_reducible assumption) | assumption)
                                      obtain ⟨ad716, A716_0, c716_0, e716, hx716_0, hl716_0, hi716_0⟩ := at_L1 (Kd.S_reads' HO_7.out).2.2 ((rd_T24 l1 x8_2).f1) p716 q716
                                      obtain rfl : ad714 = ad716 := (by injection e716)
                                      obtain ⟨ce716, hce716, hMe716, hcc716⟩ := Kd.S_get HO_7.out [] ((rd_T24 l1 x8_2).f1) p716 (by first | exact q716 | exact of_decide_eq_true (by first | (with_reducible assumption) | assumption) | (have e_ := (Kd.S_reads' HO_7.out).1; omega))
                                      obtain ⟨ve716_0, rfl, ge716_0⟩ := hMe716
                                      have hv716_0 := hcc716 0 _ rfl
                                      rw [Nat.add_zero, show ((Kd.slice 3 (Kd.int .i64))).sz = 1 from rfl, Nat.mul_one] at hv716_0
                                      replace hv716_0 := Option.some.inj (hv716_0.symm.trans hx716_0)
                                      rw [hv716_0] at ge716_0
                                      have HL716_0 := Aside0.mk (show Kd.R (Kd.int .i64) 3 _ _ _ _ (rd_L1 x7_2 ((rd_T24 l1 x8_2).f1)) from ge716_0)
                                      clear hv716_0 ge716_0
                                      have HX716_0 := Aside0.mk hx716_0
                                      clear hcc716 hce716
                                      have HR716_0 := Aside0.mk hi716_0
                                      have HC716_0 := Aside0.mk hl716_0
                                      clear hi716_0 hl716_0
                                      replace p716 := eq_true p716
                                      replace q716 := eq_true q716
                                      have p717 : 0 ≤ (((rd_T24 l1 x8_2).f2) : Int) := of_decide_eq_true (by first | (with_reducible assumption) | assumption)
                                      have q717 : ((rd_T24 l1 x8_2).f2) < ((rd_L1 x7_2 ((rd_T24 l1 x8_2).f1)).length : Int) := of_decide_eq_true (by first | (with_reducible assumption) | assumption)
                                      obtain ⟨ad717, e717, hx717_0⟩ := Kd.at_int (by repeat (first | (with_reducible exact HR716_0.out) | (with_reducible refine Kd.C_alloc ?_ _) | (with_reducible refine Kd.C_drewN ?_ _) | (with_reducible refine Kd.C_drew ?_) | exact HR716_0.out)) ((rd_T24 l1 x8_2).f2) p717 q717
                                      cases e717
                                      replace p717 := eq_true p717
                                      replace q717 := eq_true q717
                                      refine start_ (n := 13) (S := fun w' => w'.cell? ⟨gb713, 0, none⟩ = some (.int .i64 ((rd_T24 l1 x8_2).f0)) ∧ w'.cell? ⟨gb713, 1, none⟩ = some (.int .i64 ((rd_T24 l1 x8_2).f1)) ∧ w'.cell? ⟨gb713, 2, none⟩ = some (.int .i64 ((rd_T24 l1 x8_2).f2)) ∧ w'.cell? ⟨gb713, 3, none⟩ = some (.int .i64 ((rd_T24 l1 x8_2).f3)) ∧ w'.cell? (ad714.add (((rd_T24 l1 x8_2).f1)).toNat) = some (.slice (some ad717) (rd_L1 x7_2 ((rd_T24 l1 x8_2).f1)).length c716_0) ∧ w'.cell? (ad717.add (((rd_T24 l1 x8_2).f2)).toNat) = some (.int .i64 (rd (rd_L1 x7_2 ((rd_T24 l1 x8_2).f1)) ((rd_T24 l1 x8_2).f2)))) (ds := []) #[false, false, false, false, false, false, false, false, false, false, false, false, false] (by kernel_rfl) rfl rfl ⟨(blk_cell BK713.out 0).trans rfl, (blk_cell BK713.out 1).trans rfl, (blk_cell BK713.out 2).trans rfl, (blk_cell BK713.out 3).trans rfl, hx716_0, hx717_0⟩ (fun hHeld => ?_); refine with_tabW kinkeepref35_Apply.tab15 kinkeepref35_Apply.bits15 (fun HT_ HW_ => ?_)
                                      generalize w41.drew = w43 at HO_7 HL714_0 BK713 HR714_0 HB HL716_0 HR716_0 HX716_0 hx716_0 hx717_0 hHeld ⊢
                                      refine pure_ (i := 0) (N := some 51) (v := ?_) (a' := ?_) #[true, false, false, false, false, false, false, false, false, false, false, false, false] rfl rfl (any_of HT_.out (by kernel_rfl)) (fun _ _ _ h => h) (Or.inl ⟨by rfl, ?_⟩) ?_ ?_
                                      rotate_left
                                      · intro w'
                                        go_simp
                                        with_reducible rfl
                                      rotate_left
                                      · simp only [Act.put, List.setIfInBounds_toArray, List.set_cons_zero, List.set_cons_succ, i64_w, i32_w]
                                        rfl
                                      refine pure_ (i := 1) (N := some 52) (v := ?_) (a' := ?_) #[true, true, false, false, false, false, false, false, false, false, false, false, false] rfl rfl (any_of HT_.out (by kernel_rfl)) (fun _ _ _ h => h) (Or.inl ⟨by rfl, ?_⟩) ?_ ?_
                                      rotate_left
                                      · intro w'
                                        go_simp
                                        with_reducible rfl
                                      rotate_left
                                      · simp only [Act.put, List.setIfInBounds_toArray, List.set_cons_zero, List.set_cons_succ, i64_w, i32_w]
                                        rfl
                                      refine pure_ (i := 5) (N := some 56) (v := ?_) (a' := ?_) #[true, true, false, false, false, true, false, false, false, false, false, false, false] rfl rfl (any_of HT_.out (by kernel_rfl)) (fun _ _ _ h => h) (Or.inl ⟨by rfl, ?_⟩) ?_ ?_
                                      rotate_left
                                      · intro w'
                                        go_simp
                                        with_reducible rfl
                                      rotate_left
                                      · simp only [Act.put, List.setIfInBounds_toArray, List.set_cons_zero, List.set_cons_succ, i64_w, i32_w]
                                        rfl
                                      refine pure_ (i := 9) (N := some 60) (v := ?_) (a' := ?_) #[true, true, false, false, false, true, false, false, false, true, false, false, false] rfl rfl (any_of HT_.out (by kernel_rfl)) (fun _ _ _ h => h) (Or.inl ⟨by rfl, ?_⟩) ?_ ?_
                                      rotate_left
                                      · intro w'
                                        go_simp
                                        with_reducible rfl
                                      rotate_left
                                      · simp only [Act.put, List.setIfInBounds_toArray, List.set_cons_zero, List.set_cons_succ, i64_w, i32_w]
                                        rfl
                                      refine take_ (i := 2) (N := some 53) (v := ?_) (a' := ?_) #[true, true, true, false, false, true, false, false, false, true, false, false, false] rfl rfl (take_ofW HT_.out HW_.out (by kernel_rfl)) (fun _ _ _ h => h) (Or.inl ⟨by rfl, ?_⟩) hHeld ?_ ?_
                                      rotate_left
                                      · rintro w' ⟨s0, s1, s2, s3, s4, s5⟩
                                        go_simp
                                        with_reducible rfl
                                      rotate_left
                                      · simp only [Act.put, List.setIfInBounds_toArray, List.set_cons_zero, List.set_cons_succ, i64_w, i32_w]
                                        rfl
                                      refine pure_ (i := 3) (N := some 54) (v := ?_) (a' := ?_) #[true, true, true, true, false, true, false, false, false, true, false, false, false] rfl rfl (any_of HT_.out (by kernel_rfl)) (fun _ _ _ h => h) (Or.inl ⟨by rfl, ?_⟩) ?_ ?_
                                      rotate_left
                                      · intro w'
                                        go_simp
                                        with_reducible rfl
                                      rotate_left
                                      · simp only [Act.put, List.setIfInBounds_toArray, List.set_cons_zero, List.set_cons_succ, i64_w, i32_w]
                                        rfl
                                      refine take_ (i := 4) (N := some 55) (v := ?_) (a' := ?_) #[true, true, true, true, true, true, false, false, false, true, false, false, false] rfl rfl (take_ofW HT_.out HW_.out (by kernel_rfl)) (fun _ _ _ h => h) (Or.inl ⟨by rfl, ?_⟩) hHeld ?_ ?_
                                      rotate_left
                                      · rintro w' ⟨s0, s1, s2, s3, s4, s5⟩
                                        go_simp
                                        with_reducible rfl
                                      rotate_left
                                      · simp only [Act.put, List.setIfInBounds_toArray, List.set_cons_zero, List.set_cons_succ, i64_w, i32_w]
                                        rfl
                                      refine take_ (i := 6) (N := some 57) (v := ?_) (a' := ?_) #[true, true, true, true, true, true, true, false, false, true, false, false, false] rfl rfl (take_ofW HT_.out HW_.out (by kernel_rfl)) (fun _ _ _ h => h) (Or.inl ⟨by rfl, ?_⟩) hHeld ?_ ?_
                                      rotate_left
                                      · rintro w' ⟨s0, s1, s2, s3, s4, s5⟩
                                        go_simp
                                        with_reducible rfl
                                      rotate_left
                                      · simp only [Act.put, List.setIfInBounds_toArray, List.set_cons_zero, List.set_cons_succ, i64_w, i32_w]
                                        rfl
                                      refine pure_ (i := 7) (N := some 58) (v := ?_) (a' := ?_) #[true, true, true, true, true, true, true, true, false, true, false, false, false] rfl rfl (any_of HT_.out (by kernel_rfl)) (fun _ _ _ h => h) (Or.inl ⟨by rfl, ?_⟩) ?_ ?_
                                      rotate_left
                                      · intro w'
                                        go_simp
                                        with_reducible rfl
                                      rotate_left
                                      · simp only [Act.put, List.setIfInBounds_toArray, List.set_cons_zero, List.set_cons_succ, i64_w, i32_w]
                                        rfl
                                      refine take_ (i := 8) (N := some 59) (v := ?_) (a' := ?_) #[true, true, true, true, true, true, true, true, true, true, false, false, false] rfl rfl (take_ofW HT_.out HW_.out (by kernel_rfl)) (fun _ _ _ h => h) (Or.inl ⟨by rfl, ?_⟩) hHeld ?_ ?_
                                      rotate_left
                                      · rintro w' ⟨s0, s1, s2, s3, s4, s5⟩
                                        go_simp
                                        with_reducible rfl
                                      rotate_left
                                      · simp only [Act.put, List.setIfInBounds_toArray, List.set_cons_zero, List.set_cons_succ, i64_w, i32_w]
                                        rfl
                                      refine take_ (i := 10) (N := some 61) (v := ?_) (a' := ?_) #[true, true, true, true, true, true, true, true, true, true, true, false, false] rfl rfl (take_ofW HT_.out HW_.out (by kernel_rfl)) (fun _ _ _ h => h) (Or.inl ⟨by rfl, ?_⟩) hHeld ?_ ?_
                                      rotate_left
                                      · rintro w' ⟨s0, s1, s2, s3, s4, s5⟩
                                        go_simp
                                        with_reducible rfl
                                      rotate_left
                                      · simp only [Act.put, List.setIfInBounds_toArray, List.set_cons_zero, List.set_cons_succ, i64_w, i32_w]
                                        rfl
                                      refine pure_ (i := 11) (N := some 62) (v := ?_) (a' := ?_) #[true, true, true, true, true, true, true, true, true, true, true, true, false] rfl rfl (any_of HT_.out (by kernel_rfl)) (fun _ _ _ h => h) (Or.inl ⟨by rfl, ?_⟩) ?_ ?_
                                      rotate_left
                                      · intro w'
                                        go_simp
                                        with_reducible rfl
                                      rotate_left
                                      · simp only [Act.put, List.setIfInBounds_toArray, List.set_cons_zero, List.set_cons_succ, i64_w, i32_w]
                                        rfl
                                      refine pure_ (i := 12) (N := some 63) (v := ?_) (a' := ?_) #[true, true, true, true, true, true, true, true, true, true, true, true, true] rfl rfl (any_of HT_.out (by kernel_rfl)) (fun _ _ _ h => h) (Or.inl ⟨by rfl, ?_⟩) ?_ ?_
                                      rotate_left
                                      · intro w'
                                        go_simp
                                        with_reducible rfl
                                      rotate_left
                                      · simp only [Act.put, List.setIfInBounds_toArray, List.set_cons_zero, List.set_cons_succ, i64_w, i32_w]
                                        rfl
                                      refine done_ (done_of HT_.out (by kernel_rfl)) ?_
                                      try go_wp2
                                      have n0_ := Aside0.mk (Kd.S_drew HO_7.out)
                                      have n1_ := Aside0.mk (Kd.R_drew HL714_0.out)
                                      have n2_ := Aside0.mk (Kd.R_drew HL716_0.out)
                                      have n3_ := Aside0.mk (blk_drew BK713.out)
                                      have n4_ := Aside0.mk (Kd.C_drew HR714_0.out)
                                      have n5_ := Aside0.mk (Kd.C_drew HR716_0.out)
                                      have n6_ := Aside0.mk (below_drew1 HB.out)
                                      clear HO_7
                                      clear HL714_0
                                      clear HL716_0
                                      clear BK713
                                      clear HR714_0
                                      clear HR716_0
                                      clear HB
                                      have HO_7 := n0_
                                      have HL714_0 := n1_
                                      have HL716_0 := n2_
                                      have BK713 := n3_
                                      have HR714_0 := n4_
                                      have HR716_0 := n5_
                                      have HB := n6_
                                      clear n0_ n1_ n2_ n3_ n4_ n5_ n6_
                                      have p718 : 0 ≤ (((rd_T24 l1 x8_2).f0) : Int) := of_decide_eq_true (by first | (with_reducible assumption) | assumption)
                                      have q718 : ((rd_T24 l1 x8_2).f0) < (x7_2.length : Int) := of_decide_eq_true (by first | (with_reducible assumption) | assumption)
                                      obtain ⟨ad718, A718_0, c718_0, e718, hx718_0, hl718_0, hi718_0⟩ := at_L1 (Kd.S_reads' HO_7.out).2.2 ((rd_T24 l1 x8_2).f0) p718 q718
                                      obtain rfl : ad714 = ad718 := (by injection e718)
                                      obtain ⟨ce718, hce718, hMe718, hcc718⟩ := Kd.S_get HO_7.out [] ((rd_T24 l1 x8_2).f0) p718 (by first | exact q718 | exact of_decide_eq_true (by first | (with_reducible assumption) | assumption) | (have e_ := (Kd.S_reads' HO_7.out).1; omega))
                                      obtain ⟨ve718_0, rfl, ge718_0⟩ := hMe718
                                      have hv718_0 := hcc718 0 _ rfl
                                      rw [Nat.add_zero, show ((Kd.slice 3 (Kd.int .i64))).sz = 1 from rfl, Nat.mul_one] at hv718_0
                                      replace hv718_0 := Option.some.inj (hv718_0.symm.trans hx718_0)
                                      rw [hv718_0] at ge718_0
                                      have HL718_0 := Aside0.mk (show Kd.R (Kd.int .i64) 3 _ _ _ _ (rd_L1 x7_2 ((rd_T24 l1 x8_2).f0)) from ge718_0)
                                      clear hv718_0 ge718_0
                                      have HX718_0 := Aside0.mk hx718_0
                                      clear hcc718 hce718
                                      have HR718_0 := Aside0.mk hi718_0
                                      have HC718_0 := Aside0.mk hl718_0
                                      clear hi718_0 hl718_0
                                      replace p718 := eq_true p718
                                      replace q718 := eq_true q718
                                      have p719 : 0 ≤ (((rd_T24 l1 x8_2).f2) : Int) := of_decide_eq_true (by first | (with_reducible assumption) | assumption)
                                      have q719 : ((rd_T24 l1 x8_2).f2) < ((rd_L1 x7_2 ((rd_T24 l1 x8_2).f0)).length : Int) := of_decide_eq_true (by first | (with_reducible assumption) | assumption)
                                      obtain ⟨ad719, e719, hx719_0⟩ := Kd.at_int (by repeat (first | (with_reducible exact HR718_0.out) | (with_reducible refine Kd.C_alloc ?_ _) | (with_reducible refine Kd.C_drewN ?_ _) | (with_reducible refine Kd.C_drew ?_) | exact HR718_0.out)) ((rd_T24 l1 x8_2).f2) p719 q719
                                      cases e719
                                      replace p719 := eq_true p719
                                      replace q719 := eq_true q719
                                      have p35 : 0 ≤ (((rd_T24 l1 x8_2).f2) : Int) := of_decide_eq_true (by first | (with_reducible assumption) | assumption)
                                      have q35 : (((rd_T24 l1 x8_2).f2) : Int) < (((rd_L1 x7_2 ((rd_T24 l1 x8_2).f0)).length : Int) : Int) := of_decide_eq_true (by first | (with_reducible assumption) | assumption)
                                      obtain ⟨go35, co35, eo35, gb35, gl35, cl35, HG35⟩ := Kd.R_form HL718_0.out (by omega)
                                      (first | cases eo35 | (injection eo35 with ea_ en_ ec_; (first | subst ea_ | (injection ea_ with ea_; subst ea_)); subst ec_; clear en_))
                                      have GB35 := Aside0.mk gb35
                                      have GG35 := Aside0.mk HG35
                                      clear gb35 gl35 HG35
                                      (first | simp only [add_plain] at hx719_0 | skip)
                                      obtain ⟨hx35_0, hf35_0⟩ := Kd.R_celln 0 HL718_0.out (((rd_T24 l1 x8_2).f2) : Int) p35 q35
                                      replace p35 := eq_true p35
                                      replace q35 := eq_true q35
                                      have hq45 : (((rd_T24 l1 x8_2).f0) : Int) < (x7_2.length : Int) := (by have h_ : (((rd_T24 l1 x8_2).f0) : Int) < ((x7_2.length : Int) : Int) := of_decide_eq_true (by first | (with_reducible assumption) | assumption); first | exact h_ | (have e_ := (Kd.S_reads' HO_7.out).1; omega) | simpa only [List.length_set, List.length_set] using h_)
                                      obtain ⟨oki45, ce45, hcl45, hM45, hcc45, hok45, hbk45⟩ := Kd.S_borrow HO_7.out [] (((rd_T24 l1 x8_2).f0) : Int) (of_decide_eq_true (by first | (with_reducible assumption) | assumption)) hq45
                                      obtain ⟨ve45_0, rfl, ge45_0⟩ := hM45
                                      have hv45 := hcc45 0 _ rfl
                                      rw [Nat.add_zero, show ((Kd.slice 3 (Kd.int .i64))).sz = 1 from rfl, Nat.mul_one] at hv45
                                      replace hv45 := Option.some.inj (hv45.symm.trans HX718_0.out)
                                      subst hv45
                                      clear hcc45 hcl45
                                      replace ge45_0 := (show Kd.R (Kd.int .i64) 3 _ _ _ _ (rd_L1 x7_2 ((rd_T24 l1 x8_2).f0)) from ge45_0)
                                      have HP45 := Kd.R_putg ge45_0 (((rd_T24 l1 x8_2).f2) : Int) (wrap64 ((rd (rd_L1 x7_2 ((rd_T24 l1 x8_2).f0)) ((rd_T24 l1 x8_2).f2)) - ((rd_T24 l1 x8_2).f3)))
                                      rw [← Ny720.out] at HP45
                                      have HS45 := hbk45 HP45.2 (fun k_ e_ => by injection e_ with e_; subst e_; exact ge45_0.1 _ rfl) (x' := y720) (Kd.M_row HP45.1)
                                      rw [← Ny722.out] at HS45
                                      have HQ45 := Aside0.mk HS45
                                      clear HP45 HS45 hbk45 hok45
                                      refine start_ (n := 14) (S := fun w' => w'.cell? ⟨gb713, 0, none⟩ = some (.int .i64 ((rd_T24 l1 x8_2).f0)) ∧ w'.cell? ⟨gb713, 1, none⟩ = some (.int .i64 ((rd_T24 l1 x8_2).f1)) ∧ w'.cell? ⟨gb713, 2, none⟩ = some (.int .i64 ((rd_T24 l1 x8_2).f2)) ∧ w'.cell? ⟨gb713, 3, none⟩ = some (.int .i64 ((rd_T24 l1 x8_2).f3)) ∧ w'.cell? (ad714.add (((rd_T24 l1 x8_2).f0)).toNat) = some (.slice (some ⟨go35, 0, none⟩) (rd_L1 x7_2 ((rd_T24 l1 x8_2).f0)).length c718_0) ∧ w'.cell? (⟨go35, (((rd_T24 l1 x8_2).f2) : Int).toNat, none⟩) = some (.int .i64 (rd (rd_L1 x7_2 ((rd_T24 l1 x8_2).f0)) ((rd_T24 l1 x8_2).f2)))) (ds := [13]) #[false, false, false, false, false, false, false, false, false, false, false, false, false, false] (by kernel_rfl) rfl rfl ⟨(blk_cell BK713.out 0).trans rfl, (blk_cell BK713.out 1).trans rfl, (blk_cell BK713.out 2).trans rfl, (blk_cell BK713.out 3).trans rfl, hx718_0, hx719_0⟩ (fun hHeld => ?_); refine with_tabW kinkeepref35_Apply.tab17 kinkeepref35_Apply.bits17 (fun HT_ HW_ => ?_)
                                      generalize w43.drew = w44 at HO_7 HL714_0 HL716_0 BK713 HR714_0 HR716_0 HB GG35 HL718_0 HQ45 HR718_0 HX718_0 hf35_0 hx35_0 hx718_0 hx719_0 hHeld ⊢
                                      refine pure_ (i := 0) (N := some 64) (v := ?_) (a' := ?_) #[true, false, false, false, false, false, false, false, false, false, false, false, false, false] rfl rfl (any_of HT_.out (by kernel_rfl)) (fun _ _ _ h => h) (Or.inl ⟨by rfl, ?_⟩) ?_ ?_
                                      rotate_left
                                      · intro w'
                                        go_simp
                                        with_reducible rfl
                                      rotate_left
                                      · simp only [Act.put, List.setIfInBounds_toArray, List.set_cons_zero, List.set_cons_succ, i64_w, i32_w]
                                        rfl
                                      refine pure_ (i := 1) (N := some 65) (v := ?_) (a' := ?_) #[true, true, false, false, false, false, false, false, false, false, false, false, false, false] rfl rfl (any_of HT_.out (by kernel_rfl)) (fun _ _ _ h => h) (Or.inl ⟨by rfl, ?_⟩) ?_ ?_
                                      rotate_left
                                      · intro w'
                                        go_simp
                                        with_reducible rfl
                                      rotate_left
                                      · simp only [Act.put, List.setIfInBounds_toArray, List.set_cons_zero, List.set_cons_succ, i64_w, i32_w]
                                        rfl
                                      refine pure_ (i := 5) (N := some 69) (v := ?_) (a' := ?_) #[true, true, false, false, false, true, false, false, false, false, false, false, false, false] rfl rfl (any_of HT_.out (by kernel_rfl)) (fun _ _ _ h => h) (Or.inl ⟨by rfl, ?_⟩) ?_ ?_
                                      rotate_left
                                      · intro w'
                                        go_simp
                                        with_reducible rfl
                                      rotate_left
                                      · simp only [Act.put, List.setIfInBounds_toArray, List.set_cons_zero, List.set_cons_succ, i64_w, i32_w]
                                        rfl
                                      refine pure_ (i := 9) (N := some 73) (v := ?_) (a' := ?_) #[true, true, false, false, false, true, false, false, false, true, false, false, false, false] rfl rfl (any_of HT_.out (by kernel_rfl)) (fun _ _ _ h => h) (Or.inl ⟨by rfl, ?_⟩) ?_ ?_
                                      rotate_left
                                      · intro w'
                                        go_simp
                                        with_reducible rfl
                                      rotate_left
                                      · simp only [Act.put, List.setIfInBounds_toArray, List.set_cons_zero, List.set_cons_succ, i64_w, i32_w]
                                        rfl
                                      refine take_ (i := 2) (N := some 66) (v := ?_) (a' := ?_) #[true, true, true, false, false, true, false, false, false, true, false, false, false, false] rfl rfl (take_ofW HT_.out HW_.out (by kernel_rfl)) (fun _ _ _ h => h) (Or.inl ⟨by rfl, ?_⟩) hHeld ?_ ?_
                                      rotate_left
                                      · rintro w' ⟨s0, s1, s2, s3, s4, s5⟩
                                        go_simp
                                        with_reducible rfl
                                      rotate_left
                                      · simp only [Act.put, List.setIfInBounds_toArray, List.set_cons_zero, List.set_cons_succ, i64_w, i32_w]
                                        rfl
                                      refine pure_ (i := 3) (N := some 67) (v := ?_) (a' := ?_) #[true, true, true, true, false, true, false, false, false, true, false, false, false, false] rfl rfl (any_of HT_.out (by kernel_rfl)) (fun _ _ _ h => h) (Or.inl ⟨by rfl, ?_⟩) ?_ ?_
                                      rotate_left
                                      · intro w'
                                        go_simp
                                        with_reducible rfl
                                      rotate_left
                                      · simp only [Act.put, List.setIfInBounds_toArray, List.set_cons_zero, List.set_cons_succ, i64_w, i32_w]
                                        rfl
                                      refine take_ (i := 4) (N := some 68) (v := ?_) (a' := ?_) #[true, true, true, true, true, true, false, false, false, true, false, false, false, false] rfl rfl (take_ofW HT_.out HW_.out (by kernel_rfl)) (fun _ _ _ h => h) (Or.inl ⟨by rfl, ?_⟩) hHeld ?_ ?_
                                      rotate_left
                                      · rintro w' ⟨s0, s1, s2, s3, s4, s5⟩
                                        go_simp
                                        with_reducible rfl
                                      rotate_left
                                      · simp only [Act.put, List.setIfInBounds_toArray, List.set_cons_zero, List.set_cons_succ, i64_w, i32_w]
                                        rfl
                                      refine take_ (i := 6) (N := some 70) (v := ?_) (a' := ?_) #[true, true, true, true, true, true, true, false, false, true, false, false, false, false] rfl rfl (take_ofW HT_.out HW_.out (by kernel_rfl)) (fun _ _ _ h => h) (Or.inl ⟨by rfl, ?_⟩) hHeld ?_ ?_
                                      rotate_left
                                      · rintro w' ⟨s0, s1, s2, s3, s4, s5⟩
                                        go_simp
                                        with_reducible rfl
                                      rotate_left
                                      · simp only [Act.put, List.setIfInBounds_toArray, List.set_cons_zero, List.set_cons_succ, i64_w, i32_w]
                                        rfl
                                      refine pure_ (i := 7) (N := some 71) (v := ?_) (a' := ?_) #[true, true, true, true, true, true, true, true, false, true, false, false, false, false] rfl rfl (any_of HT_.out (by kernel_rfl)) (fun _ _ _ h => h) (Or.inl ⟨by rfl, ?_⟩) ?_ ?_
                                      rotate_left
                                      · intro w'
                                        go_simp
                                        with_reducible rfl
                                      rotate_left
                                      · simp only [Act.put, List.setIfInBounds_toArray, List.set_cons_zero, List.set_cons_succ, i64_w, i32_w]
                                        rfl
                                      refine take_ (i := 8) (N := some 72) (v := ?_) (a' := ?_) #[true, true, true, true, true, true, true, true, true, true, false, false, false, false] rfl rfl (take_ofW HT_.out HW_.out (by kernel_rfl)) (fun _ _ _ h => h) (Or.inl ⟨by rfl, ?_⟩) hHeld ?_ ?_
                                      rotate_left
                                      · rintro w' ⟨s0, s1, s2, s3, s4, s5⟩
                                        go_simp
                                        with_reducible rfl
                                      rotate_left
                                      · simp only [Act.put, List.setIfInBounds_toArray, List.set_cons_zero, List.set_cons_succ, i64_w, i32_w]
                                        rfl
                                      refine take_ (i := 10) (N := some 74) (v := ?_) (a' := ?_) #[true, true, true, true, true, true, true, true, true, true, true, false, false, false] rfl rfl (take_ofW HT_.out HW_.out (by kernel_rfl)) (fun _ _ _ h => h) (Or.inl ⟨by rfl, ?_⟩) hHeld ?_ ?_
                                      rotate_left
                                      · rintro w' ⟨s0, s1, s2, s3, s4, s5⟩
                                        go_simp
                                        with_reducible rfl
                                      rotate_left
                                      · simp only [Act.put, List.setIfInBounds_toArray, List.set_cons_zero, List.set_cons_succ, i64_w, i32_w]
                                        rfl
                                      refine pure_ (i := 11) (N := some 75) (v := ?_) (a' := ?_) #[true, true, true, true, true, true, true, true, true, true, true, true, false, false] rfl rfl (any_of HT_.out (by kernel_rfl)) (fun _ _ _ h => h) (Or.inl ⟨by rfl, ?_⟩) ?_ ?_
                                      rotate_left
                                      · intro w'
                                        go_simp
                                        with_reducible rfl
                                      rotate_left
                                      · simp only [Act.put, List.setIfInBounds_toArray, List.set_cons_zero, List.set_cons_succ, i64_w, i32_w]
                                        rfl
                                      refine pure_ (i := 12) (N := some 76) (v := ?_) (a' := ?_) #[true, true, true, true, true, true, true, true, true, true, true, true, true, false] rfl rfl (any_of HT_.out (by kernel_rfl)) (fun _ _ _ h => h) (Or.inl ⟨by rfl, ?_⟩) ?_ ?_
                                      rotate_left
                                      · intro w'
                                        go_simp
                                        with_reducible rfl
                                      rotate_left
                                      · simp only [Act.put, List.setIfInBounds_toArray, List.set_cons_zero, List.set_cons_succ, i64_w, i32_w]
                                        rfl
                                      refine last_ (i := 13) (N := none) #[true, true, true, true, true, true, true, true, true, true, true, true, true, true] rfl rfl (one_of HT_.out (by kernel_rfl)) (by decide) (fun K hK => ?_)
                                      refine skip_ (w1 := ?_) (by rfl) rfl ?_ ?_
                                      rotate_left
                                      · go_simp
                                        rfl
                                      refine hK.out _ _ ?_
                                      clear hK K
                                      refine done_ (done_of HT_.out (by kernel_rfl)) ?_
                                      try go_wp2
                                      have n0_ : Aside0 (Kd.S (Kd.slice 3 (Kd.int .i64)) 31 (w44.setCell ⟨go35, (((rd_T24 l1 x8_2).f2) : Int).toNat, none⟩ (.int .i64 (wrap64 ((rd (rd_L1 x7_2 ((rd_T24 l1 x8_2).f0)) ((rd_T24 l1 x8_2).f2)) - ((rd_T24 l1 x8_2).f3))))) w.heap.size (fun _ => True) (.slice (some ad714) x7_2.length co42) y722) := ⟨by (with_reducible repeat (first | apply Kd.S_alloc | apply Kd.S_drewN | apply Kd.S_drew)); exact HQ45.out⟩
                                      have n1_ : Aside0 ((w44.setCell ⟨go35, (((rd_T24 l1 x8_2).f2) : Int).toNat, none⟩ (.int .i64 (wrap64 ((rd (rd_L1 x7_2 ((rd_T24 l1 x8_2).f0)) ((rd_T24 l1 x8_2).f2)) - ((rd_T24 l1 x8_2).f3))))).heap[gb713]? = some (.cells #[.int .i64 ((rd_T24 l1 x8_2).f0), .int .i64 ((rd_T24 l1 x8_2).f1), .int .i64 ((rd_T24 l1 x8_2).f2), .int .i64 ((rd_T24 l1 x8_2).f3)] 24 (0, 0))) := ⟨by (with_reducible repeat (first | refine blk_drewN ?_ _ | refine blk_drew ?_ | refine blk_alloc ?_ _)); refine blk_far ?_ (by have h_ := Kd.R_ne HL718_0.out BK713.out (by decide); intro e_; exact h_ (by rw [e_]; rfl)) _; (with_reducible repeat (first | refine blk_drewN ?_ _ | refine blk_drew ?_ | refine blk_alloc ?_ _)); exact BK713.out⟩
                                      have n2_ : Aside0 (Below w.heap.size w (w44.setCell ⟨go35, (((rd_T24 l1 x8_2).f2) : Int).toNat, none⟩ (.int .i64 (wrap64 ((rd (rd_L1 x7_2 ((rd_T24 l1 x8_2).f0)) ((rd_T24 l1 x8_2).f2)) - ((rd_T24 l1 x8_2).f3)))))) := ⟨by repeat (first | (with_reducible first | exact HB.out | apply below_alloc | apply pw_below_drewN | apply below_drew1 | refine below_set ?_ GB35.out | refine below_set ?_ GE713.out) | exact HB.out)⟩
                                      (try clear HO_7)
                                      (try clear BK713)
                                      (try clear HB)
                                      generalize (w44.setCell ⟨go35, (((rd_T24 l1 x8_2).f2) : Int).toNat, none⟩ (.int .i64 (wrap64 ((rd (rd_L1 x7_2 ((rd_T24 l1 x8_2).f0)) ((rd_T24 l1 x8_2).f2)) - ((rd_T24 l1 x8_2).f3))))) = w47 at n0_ n1_ n2_ ⊢
                                      have HO_7 := n0_
                                      have BK713 := n1_
                                      have HB := n2_
                                      clear n0_ n1_ n2_
                                      have n0_ := Aside0.mk (Kd.S_drew HO_7.out)
                                      have n1_ := Aside0.mk (blk_drew BK713.out)
                                      have n2_ := Aside0.mk (below_drew1 HB.out)
                                      clear HO_7
                                      clear BK713
                                      clear HB
                                      have HO_7 := n0_
                                      have BK713 := n1_
                                      have HB := n2_
                                      clear n0_ n1_ n2_
                                      have p723 : 0 ≤ (((rd_T24 l1 x8_2).f1) : Int) := of_decide_eq_true (by first | (with_reducible assumption) | assumption)
                                      have q723 : ((rd_T24 l1 x8_2).f1) < (y722.length : Int) := (by have h_ : (((rd_T24 l1 x8_2).f1) : Int) < ((x7_2.length : Int) : Int) := of_decide_eq_true (by first | (with_reducible assumption) | assumption); first | (have e_ := (Kd.S_reads' HO_7.out).1; omega) | simpa only [Ny722.out, List.length_set] using h_)
                                      have ql723 : ((((rd_T24 l1 x8_2).f1) : Int) < ((x7_2.length : Int) : Int)) = True := eq_true (of_decide_eq_true (by first | (with_reducible assumption) | assumption))
                                      obtain ⟨ad723, A723_0, c723_0, e723, hx723_0, hl723_0, hi723_0⟩ := at_L1 (Kd.S_reads' HO_7.out).2.2 ((rd_T24 l1 x8_2).f1) p723 q723
                                      obtain rfl : ad714 = ad723 := (by injection e723)
                                      obtain ⟨ce723, hce723, hMe723, hcc723⟩ := Kd.S_get HO_7.out [] ((rd_T24 l1 x8_2).f1) p723 (by first | exact q723 | exact of_decide_eq_true (by first | (with_reducible assumption) | assumption) | (have e_ := (Kd.S_reads' HO_7.out).1; omega))
                                      obtain ⟨ve723_0, rfl, ge723_0⟩ := hMe723
                                      have hv723_0 := hcc723 0 _ rfl
                                      rw [Nat.add_zero, show ((Kd.slice 3 (Kd.int .i64))).sz = 1 from rfl, Nat.mul_one] at hv723_0
                                      replace hv723_0 := Option.some.inj (hv723_0.symm.trans hx723_0)
                                      rw [hv723_0] at ge723_0
                                      have HL723_0 := Aside0.mk (show Kd.R (Kd.int .i64) 3 _ _ _ _ (rd_L1 y722 ((rd_T24 l1 x8_2).f1)) from ge723_0)
                                      clear hv723_0 ge723_0
                                      have HX723_0 := Aside0.mk hx723_0
                                      clear hcc723 hce723
                                      have HR723_0 := Aside0.mk hi723_0
                                      have HC723_0 := Aside0.mk hl723_0
                                      clear hi723_0 hl723_0
                                      replace p723 := eq_true p723
                                      replace q723 := eq_true q723
                                      have p724 : 0 ≤ (((rd_T24 l1 x8_2).f2) : Int) := of_decide_eq_true (by first | (with_reducible assumption) | assumption)
                                      have q724 : ((rd_T24 l1 x8_2).f2) < ((rd_L1 y722 ((rd_T24 l1 x8_2).f1)).length : Int) := of_decide_eq_true (by first | (with_reducible assumption) | assumption)
                                      obtain ⟨ad724, e724, hx724_0⟩ := Kd.at_int (by repeat (first | (with_reducible exact HR723_0.out) | (with_reducible refine Kd.C_alloc ?_ _) | (with_reducible refine Kd.C_drewN ?_ _) | (with_reducible refine Kd.C_drew ?_) | exact HR723_0.out)) ((rd_T24 l1 x8_2).f2) p724 q724
                                      cases e724
                                      replace p724 := eq_true p724
                                      replace q724 := eq_true q724
                                      have p37 : 0 ≤ (((rd_T24 l1 x8_2).f2) : Int) := of_decide_eq_true (by first | (with_reducible assumption) | assumption)
                                      have q37 : (((rd_T24 l1 x8_2).f2) : Int) < (((rd_L1 y722 ((rd_T24 l1 x8_2).f1)).length : Int) : Int) := of_decide_eq_true (by first | (with_reducible assumption) | assumption)
                                      obtain ⟨go37, co37, eo37, gb37, gl37, cl37, HG37⟩ := Kd.R_form HL723_0.out (by omega)
                                      (first | cases eo37 | (injection eo37 with ea_ en_ ec_; (first | subst ea_ | (injection ea_ with ea_; subst ea_)); subst ec_; clear en_))
                                      have GB37 := Aside0.mk gb37
                                      have GG37 := Aside0.mk HG37
                                      clear gb37 gl37 HG37
                                      (first | simp only [add_plain] at hx724_0 | skip)
                                      obtain ⟨hx37_0, hf37_0⟩ := Kd.R_celln 0 HL723_0.out (((rd_T24 l1 x8_2).f2) : Int) p37 q37
                                      replace p37 := eq_true p37
                                      replace q37 := eq_true q37
                                      have hq49 : (((rd_T24 l1 x8_2).f1) : Int) < (y722.length : Int) := (by have h_ : (((rd_T24 l1 x8_2).f1) : Int) < ((x7_2.length : Int) : Int) := of_decide_eq_true (by first | (with_reducible assumption) | assumption); first | exact h_ | (have e_ := (Kd.S_reads' HO_7.out).1; omega) | simpa only [Ny722.out, List.length_set] using h_)
                                      obtain ⟨oki49, ce49, hcl49, hM49, hcc49, hok49, hbk49⟩ := Kd.S_borrow HO_7.out [] (((rd_T24 l1 x8_2).f1) : Int) (of_decide_eq_true (by first | (with_reducible assumption) | assumption)) (by have h_ := hq49; have e_ := (Kd.S_reads' HO_7.out).1; omega)
                                      obtain ⟨ve49_0, rfl, ge49_0⟩ := hM49
                                      have hv49 := hcc49 0 _ rfl
                                      rw [Nat.add_zero, show ((Kd.slice 3 (Kd.int .i64))).sz = 1 from rfl, Nat.mul_one] at hv49
                                      replace hv49 := Option.some.inj (hv49.symm.trans HX723_0.out)
                                      subst hv49
                                      clear hcc49 hcl49
                                      replace ge49_0 := (show Kd.R (Kd.int .i64) 3 _ _ _ _ (rd_L1 y722 ((rd_T24 l1 x8_2).f1)) from ge49_0)
                                      have HP49 := Kd.R_putg ge49_0 (((rd_T24 l1 x8_2).f2) : Int) (wrap64 ((rd (rd_L1 y722 ((rd_T24 l1 x8_2).f1)) ((rd_T24 l1 x8_2).f2)) + ((rd_T24 l1 x8_2).f3)))
                                      rw [← Ny725.out] at HP49
                                      have HS49 := hbk49 HP49.2 (fun k_ e_ => by injection e_ with e_; subst e_; exact ge49_0.1 _ rfl) (x' := y725) (Kd.M_row HP49.1)
                                      rw [← Ny727.out] at HS49
                                      have HQ49 := Aside0.mk HS49
                                      clear HP49 HS49 hbk49 hok49
                                      refine start_ (n := 14) (S := fun w' => w'.cell? ⟨gb713, 0, none⟩ = some (.int .i64 ((rd_T24 l1 x8_2).f0)) ∧ w'.cell? ⟨gb713, 1, none⟩ = some (.int .i64 ((rd_T24 l1 x8_2).f1)) ∧ w'.cell? ⟨gb713, 2, none⟩ = some (.int .i64 ((rd_T24 l1 x8_2).f2)) ∧ w'.cell? ⟨gb713, 3, none⟩ = some (.int .i64 ((rd_T24 l1 x8_2).f3)) ∧ w'.cell? (ad714.add (((rd_T24 l1 x8_2).f1)).toNat) = some (.slice (some ⟨go37, 0, none⟩) (rd_L1 y722 ((rd_T24 l1 x8_2).f1)).length c723_0) ∧ w'.cell? (⟨go37, (((rd_T24 l1 x8_2).f2) : Int).toNat, none⟩) = some (.int .i64 (rd (rd_L1 y722 ((rd_T24 l1 x8_2).f1)) ((rd_T24 l1 x8_2).f2)))) (ds := [13]) #[false, false, false, false, false, false, false, false, false, false, false, false, false, false] (by kernel_rfl) rfl rfl ⟨(blk_cell BK713.out 0).trans rfl, (blk_cell BK713.out 1).trans rfl, (blk_cell BK713.out 2).trans rfl, (blk_cell BK713.out 3).trans rfl, hx723_0, hx724_0⟩ (fun hHeld => ?_); refine with_tabW kinkeepref35_Apply.tab18 kinkeepref35_Apply.bits18 (fun HT_ HW_ => ?_)
                                      generalize w47.drew = w48 at HO_7 BK713 HB GG37 HL723_0 HQ45 HQ49 HR723_0 HX723_0 hf37_0 hx37_0 hx723_0 hx724_0 hHeld ⊢
                                      refine pure_ (i := 0) (N := some 77) (v := ?_) (a' := ?_) #[true, false, false, false, false, false, false, false, false, false, false, false, false, false] rfl rfl (any_of HT_.out (by kernel_rfl)) (fun _ _ _ h => h) (Or.inl ⟨by rfl, ?_⟩) ?_ ?_
                                      rotate_left
                                      · intro w'
                                        go_simp
                                        with_reducible rfl
                                      rotate_left
                                      · simp only [Act.put, List.setIfInBounds_toArray, List.set_cons_zero, List.set_cons_succ, i64_w, i32_w]
                                        rfl
                                      refine pure_ (i := 1) (N := some 78) (v := ?_) (a' := ?_) #[true, true, false, false, false, false, false, false, false, false, false, false, false, false] rfl rfl (any_of HT_.out (by kernel_rfl)) (fun _ _ _ h => h) (Or.inl ⟨by rfl, ?_⟩) ?_ ?_
                                      rotate_left
                                      · intro w'
                                        go_simp
                                        with_reducible rfl
                                      rotate_left
                                      · simp only [Act.put, List.setIfInBounds_toArray, List.set_cons_zero, List.set_cons_succ, i64_w, i32_w]
                                        rfl
                                      refine pure_ (i := 5) (N := some 82) (v := ?_) (a' := ?_) #[true, true, false, false, false, true, false, false, false, false, false, false, false, false] rfl rfl (any_of HT_.out (by kernel_rfl)) (fun _ _ _ h => h) (Or.inl ⟨by rfl, ?_⟩) ?_ ?_
                                      rotate_left
                                      · intro w'
                                        go_simp
                                        with_reducible rfl
                                      rotate_left
                                      · simp only [Act.put, List.setIfInBounds_toArray, List.set_cons_zero, List.set_cons_succ, i64_w, i32_w]
                                        rfl
                                      refine pure_ (i := 9) (N := some 86) (v := ?_) (a' := ?_) #[true, true, false, false, false, true, false, false, false, true, false, false, false, false] rfl rfl (any_of HT_.out (by kernel_rfl)) (fun _ _ _ h => h) (Or.inl ⟨by rfl, ?_⟩) ?_ ?_
                                      rotate_left
                                      · intro w'
                                        go_simp
                                        with_reducible rfl
                                      rotate_left
                                      · simp only [Act.put, List.setIfInBounds_toArray, List.set_cons_zero, List.set_cons_succ, i64_w, i32_w]
                                        rfl
                                      refine take_ (i := 2) (N := some 79) (v := ?_) (a' := ?_) #[true, true, true, false, false, true, false, false, false, true, false, false, false, false] rfl rfl (take_ofW HT_.out HW_.out (by kernel_rfl)) (fun _ _ _ h => h) (Or.inl ⟨by rfl, ?_⟩) hHeld ?_ ?_
                                      rotate_left
                                      · rintro w' ⟨s0, s1, s2, s3, s4, s5⟩
                                        go_simp
                                        with_reducible rfl
                                      rotate_left
                                      · simp only [Act.put, List.setIfInBounds_toArray, List.set_cons_zero, List.set_cons_succ, i64_w, i32_w]
                                        rfl
                                      refine pure_ (i := 3) (N := some 80) (v := ?_) (a' := ?_) #[true, true, true, true, false, true, false, false, false, true, false, false, false, false] rfl rfl (any_of HT_.out (by kernel_rfl)) (fun _ _ _ h => h) (Or.inl ⟨by rfl, ?_⟩) ?_ ?_
                                      rotate_left
                                      · intro w'
                                        go_simp
                                        with_reducible rfl
                                      rotate_left
                                      · simp only [Act.put, List.setIfInBounds_toArray, List.set_cons_zero, List.set_cons_succ, i64_w, i32_w]
                                        rfl
                                      refine take_ (i := 4) (N := some 81) (v := ?_) (a' := ?_) #[true, true, true, true, true, true, false, false, false, true, false, false, false, false] rfl rfl (take_ofW HT_.out HW_.out (by kernel_rfl)) (fun _ _ _ h => h) (Or.inl ⟨by rfl, ?_⟩) hHeld ?_ ?_
                                      rotate_left
                                      · rintro w' ⟨s0, s1, s2, s3, s4, s5⟩
                                        go_simp
                                        with_reducible rfl
                                      rotate_left
                                      · simp only [Act.put, List.setIfInBounds_toArray, List.set_cons_zero, List.set_cons_succ, i64_w, i32_w]
                                        rfl
                                      refine take_ (i := 6) (N := some 83) (v := ?_) (a' := ?_) #[true, true, true, true, true, true, true, false, false, true, false, false, false, false] rfl rfl (take_ofW HT_.out HW_.out (by kernel_rfl)) (fun _ _ _ h => h) (Or.inl ⟨by rfl, ?_⟩) hHeld ?_ ?_
                                      rotate_left
                                      · rintro w' ⟨s0, s1, s2, s3, s4, s5⟩
                                        go_simp
                                        with_reducible rfl
                                      rotate_left
                                      · simp only [Act.put, List.setIfInBounds_toArray, List.set_cons_zero, List.set_cons_succ, i64_w, i32_w]
                                        rfl
                                      refine pure_ (i := 7) (N := some 84) (v := ?_) (a' := ?_) #[true, true, true, true, true, true, true, true, false, true, false, false, false, false] rfl rfl (any_of HT_.out (by kernel_rfl)) (fun _ _ _ h => h) (Or.inl ⟨by rfl, ?_⟩) ?_ ?_
                                      rotate_left
                                      · intro w'
                                        go_simp
                                        with_reducible rfl
                                      rotate_left
                                      · simp only [Act.put, List.setIfInBounds_toArray, List.set_cons_zero, List.set_cons_succ, i64_w, i32_w]
                                        rfl
                                      refine take_ (i := 8) (N := some 85) (v := ?_) (a' := ?_) #[true, true, true, true, true, true, true, true, true, true, false, false, false, false] rfl rfl (take_ofW HT_.out HW_.out (by kernel_rfl)) (fun _ _ _ h => h) (Or.inl ⟨by rfl, ?_⟩) hHeld ?_ ?_
                                      rotate_left
                                      · rintro w' ⟨s0, s1, s2, s3, s4, s5⟩
                                        go_simp
                                        with_reducible rfl
                                      rotate_left
                                      · simp only [Act.put, List.setIfInBounds_toArray, List.set_cons_zero, List.set_cons_succ, i64_w, i32_w]
                                        rfl
                                      refine take_ (i := 10) (N := some 87) (v := ?_) (a' := ?_) #[true, true, true, true, true, true, true, true, true, true, true, false, false, false] rfl rfl (take_ofW HT_.out HW_.out (by kernel_rfl)) (fun _ _ _ h => h) (Or.inl ⟨by rfl, ?_⟩) hHeld ?_ ?_
                                      rotate_left
                                      · rintro w' ⟨s0, s1, s2, s3, s4, s5⟩
                                        go_simp
                                        with_reducible rfl
                                      rotate_left
                                      · simp only [Act.put, List.setIfInBounds_toArray, List.set_cons_zero, List.set_cons_succ, i64_w, i32_w]
                                        rfl
                                      refine pure_ (i := 11) (N := some 88) (v := ?_) (a' := ?_) #[true, true, true, true, true, true, true, true, true, true, true, true, false, false] rfl rfl (any_of HT_.out (by kernel_rfl)) (fun _ _ _ h => h) (Or.inl ⟨by rfl, ?_⟩) ?_ ?_
                                      rotate_left
                                      · intro w'
                                        go_simp
                                        with_reducible rfl
                                      rotate_left
                                      · simp only [Act.put, List.setIfInBounds_toArray, List.set_cons_zero, List.set_cons_succ, i64_w, i32_w]
                                        rfl
                                      refine pure_ (i := 12) (N := some 89) (v := ?_) (a' := ?_) #[true, true, true, true, true, true, true, true, true, true, true, true, true, false] rfl rfl (any_of HT_.out (by kernel_rfl)) (fun _ _ _ h => h) (Or.inl ⟨by rfl, ?_⟩) ?_ ?_
                                      rotate_left
                                      · intro w'
                                        go_simp
                                        with_reducible rfl
                                      rotate_left
                                      · simp only [Act.put, List.setIfInBounds_toArray, List.set_cons_zero, List.set_cons_succ, i64_w, i32_w]
                                        rfl
                                      refine last_ (i := 13) (N := none) #[true, true, true, true, true, true, true, true, true, true, true, true, true, true] rfl rfl (one_of HT_.out (by kernel_rfl)) (by decide) (fun K hK => ?_)
                                      refine skip_ (w1 := ?_) (by rfl) rfl ?_ ?_
                                      rotate_left
                                      · go_simp
                                        rfl
                                      refine hK.out _ _ ?_
                                      clear hK K
                                      refine done_ (done_of HT_.out (by kernel_rfl)) ?_
                                      try go_wp2
                                      go_roundg k2
                                      case measure => have := HK1.out; have := HK2.out; omega
                                      case rel => exact ⟨(y727), (wrap64 (x8_2 + 1)), (by first | rfl | (simp; done) | (simp [*]; done)), H', ⟨by have := HK1.out; have := HK2.out; omega⟩, ⟨by (with_reducible repeat (first | apply Kd.S_alloc | apply Kd.S_drewN | apply Kd.S_drew)); exact HQ49.out⟩, ⟨by repeat (first | (with_reducible first | exact HB.out | apply below_alloc | apply pw_below_drewN | apply below_drew1 | refine below_set ?_ GB37.out | refine below_set ?_ GE713.out) | exact HB.out)⟩⟩
                                    · rw [if_neg c36] at H
                                      exact absurd H (by simp)
                                · rw [if_neg c27] at H
                                  exact absurd H (by simp)
                              · rw [if_neg c26] at H
                                exact absurd H (by simp)
                            · rw [if_neg c25] at H
                              exact absurd H (by simp)
                        · rw [if_neg c18] at H
                          exact absurd H (by simp)
                      · rw [if_neg c17] at H
                        exact absurd H (by simp)
                    · rw [if_neg c16] at H
                      exact absurd H (by simp)
                  · rw [if_neg c15] at H
                    exact absurd H (by simp)
                · rw [if_neg c14] at H
                  exact absurd H (by simp)
              · rw [if_neg c13] at H
                have c13b0 : decide (x8_2 < (l1.length : Int)) = false := decide_eq_false c13
                clear c13
                simp only [Option.some.injEq, Prod.mk.injEq] at H
                obtain ⟨rfl, rfl⟩ := H
                go_wp2
                go_ret2
                exact ⟨_, by first | rfl | (simp [errW_none, errW_some] <;> rfl) | (simp [*, errW_none, errW_some] <;> rfl), by (with_reducible repeat (first | apply Kd.S_alloc | apply Kd.S_drewN | apply Kd.S_drew)); exact HO_7.out, by repeat (first | (with_reducible first | exact HB.out | apply below_alloc | apply pw_below_drewN | apply below_drew1) | exact HB.out)⟩
  · replace c4 := Bool.eq_false_iff.mpr c4
    subst c4
    have H1 : (some (([] : List (List Int)), 1)) = some (r1, r2) := by rw [if_neg (show ¬ (false = true) by decide)] at H; exact H
    clear H
    have H := H1
    clear H1
    simp only [Option.some.injEq, Prod.mk.injEq] at H
    obtain ⟨rfl, rfl⟩ := H
    go_enter Try.func35, Try.ntmps35
    go_wp2_with (first | ((with_reducible refine gate_callee (f := 23) rfl ?_); refine goesL_ (some 11) rfl rfl Try.func23 (by kernel_rfl) rfl #[.slice A0 l0.length c0] rfl (by (try simp only [List.map_toArray, List.map_cons, List.map_nil]); first | done | rfl | (simp only [List.length_drop, List.length_take]; rfl)) ?_; (with_reducible refine (kinkeepref35_Valid.calls k _ _ l0 false _ ?side1 ?side2 A3.out).mono ?_); (case side1 => repeat (first | exact HR0.out | (with_reducible refine Kd.C_alloc ?_ _) | (with_reducible refine Kd.C_drewN ?_ _) | (with_reducible refine Kd.C_drew ?_))); (case side2 => exact HC0.out); rintro e w' ⟨rfl, ⟨nd, rfl⟩⟩; refine ⟨_, rfl, ?_⟩))
    go_ret2
    exact ⟨_, by first | rfl | (simp [errW_none, errW_some] <;> rfl) | (simp [*, errW_none, errW_some] <;> rfl), by first | exact Kd.S_nil _ _ _ _ _ | exact Kd.N_nil _ _ _ _ _ | exact Kd.V_nil _ _ _ _ _ | exact Kd.Q_nil _ _ _ _ _ | exact Kd.R_nil _ _ _ _ _, by repeat (first | (with_reducible first | exact HB.out | apply below_alloc | apply pw_below_drewN | apply below_drew1) | exact HB.out)⟩

end Go.Proofs.Ytdljbmgknhbceaa.Q
