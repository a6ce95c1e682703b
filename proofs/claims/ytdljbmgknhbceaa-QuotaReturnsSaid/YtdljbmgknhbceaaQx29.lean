-- Printed by this seat's own driver (tools/mkprint.sh) out of the kit's print.py over stub bodies; parts are then proved by hand.
import Derived.Test.YtdljbmgknhbceaaQx0
import Derived.Test.YtdljbmgknhbceaaQv
import Derived.Test.YtdljbmgknhbceaaQr
import Derived.Test.YtdljbmgknhbceaaQx25
namespace Go.Proofs.Ytdljbmgknhbceaa.Q
open Go.RowKit Go.Proofs.YtdljbmgknhbceaaW.PrintWords Go.Proofs.YtdljbmgknhbceaaW.PrintLast Go.Proofs.YtdljbmgknhbceaaW.PrintMore
attribute [local go_sem] max2_int min2_int max_two min_two max_three min_three max_four min_four   -- for this text's walks alone
set_option linter.unusedVariables false
set_option linter.unusedSimpArgs false

/-! ### kinkeeplaw35_QuotaReturns: function 3 -/
mutual
def kinkeeplaw35_QuotaReturns.j0 : Nat → List (List Int) → List Int → List Int → Bool → Int → Int → Int → Int → Option (Bool)
  | 0, _, _, _, _, _, _, _, _ => none
  | k + 1, x0, x9, x11, x86, x270000, x270001, x270002, x270003 => if x86 = true then (some false) else (kinkeeplaw35_QuotaReturns.l0 k x0 x9 x11 0 x270000 x270001 x270002 x270003)
def kinkeeplaw35_QuotaReturns.l0 : Nat → List (List Int) → List Int → List Int → Int → Int → Int → Int → Int → Option (Bool)
  | 0, _, _, _, _, _, _, _, _ => none
  | k + 1, x0, x9, x11, x13, x270000, x270001, x270002, x270003 => if x13 < (x0.length : Int) then (if 0 ≤ x13 then (if x13 < (x9.length : Int) then (if x13 = x270000 then (kinkeeplaw35_QuotaReturns.j2 k x0 x9 x11 x13 (wrap64 ((rd x9 x13) + x270003)) x270000 x270001 x270002 x270003) else (kinkeeplaw35_QuotaReturns.j2 k x0 x9 x11 x13 (rd x9 x13) x270000 x270001 x270002 x270003)) else (none)) else (none)) else (some true)
def kinkeeplaw35_QuotaReturns.j2 : Nat → List (List Int) → List Int → List Int → Int → Int → Int → Int → Int → Int → Option (Bool)
  | 0, _, _, _, _, _, _, _, _, _ => none
  | k + 1, x0, x9, x11, x13, x14, x270000, x270001, x270002, x270003 => if x13 = x270001 then (if 0 ≤ x13 then (if x13 < (x11.length : Int) then (if (rd x11 x13) = (wrap64 (x14 - x270003)) then (kinkeeplaw35_QuotaReturns.l0 k x0 x9 x11 (wrap64 (x13 + 1)) x270000 x270001 x270002 x270003) else (some false)) else (none)) else (none)) else (if 0 ≤ x13 then (if x13 < (x11.length : Int) then (if (rd x11 x13) = x14 then (kinkeeplaw35_QuotaReturns.l0 k x0 x9 x11 (wrap64 (x13 + 1)) x270000 x270001 x270002 x270003) else (some false)) else (none)) else (none))
end
def kinkeeplaw35_QuotaReturns.f (k : Nat) (l0 : List (List Int)) (a1_0 : Int) (a1_1 : Int) (a1_2 : Int) (a1_3 : Int) : Option (Bool) := (kinkeeplaw35_awake.f k).bind fun t270 => (if t270 = true then (if (l0.length : Int) > 12 then (some true) else ((quota_Apply.f k l0 (([(⟨a1_0, a1_1, a1_2, a1_3⟩ : S29)] : List (S29)))).bind fun bt274 => (if bt274.2 = 0 then ((quota_Apply.f k bt274.1 (([(⟨a1_1, a1_0, a1_2, a1_3⟩ : S29)] : List (S29)))).bind fun bt281 => ((quota_Balance.f k l0).bind fun bt285 => ((quota_Balance.f k bt274.1).bind fun bt289 => (if bt281.2 = 0 then (if bt285.2 = 0 then (if bt289.2 = 0 then ((kinkeepref35_Same.f k bt281.1 l0).bind fun t293 => (if t293 = true then (if (bt285.1.length : Int) = (l0.length : Int) then (kinkeeplaw35_QuotaReturns.j0 k l0 bt285.1 bt289.1 ((bt289.1.length : Int) != (l0.length : Int)) a1_0 a1_1 a1_2 a1_3) else (kinkeeplaw35_QuotaReturns.j0 k l0 bt285.1 bt289.1 true a1_0 a1_1 a1_2 a1_3)) else (kinkeeplaw35_QuotaReturns.j0 k l0 bt285.1 bt289.1 true a1_0 a1_1 a1_2 a1_3))) else (kinkeeplaw35_QuotaReturns.j0 k l0 bt285.1 bt289.1 true a1_0 a1_1 a1_2 a1_3)) else (kinkeeplaw35_QuotaReturns.j0 k l0 bt285.1 bt289.1 true a1_0 a1_1 a1_2 a1_3)) else (kinkeeplaw35_QuotaReturns.j0 k l0 bt285.1 bt289.1 true a1_0 a1_1 a1_2 a1_3))))) else (some ((bt274.1.length : Int) == 0))))) else (some false))
theorem kinkeeplaw35_QuotaReturns.mono_l : ∀ k, (∀ y0 y1 y2 y3 y4 y5 y6 y7, LeO (kinkeeplaw35_QuotaReturns.j0 k y0 y1 y2 y3 y4 y5 y6 y7) (kinkeeplaw35_QuotaReturns.j0 (k + 1) y0 y1 y2 y3 y4 y5 y6 y7)) ∧ (∀ y0 y1 y2 y3 y4 y5 y6 y7, LeO (kinkeeplaw35_QuotaReturns.l0 k y0 y1 y2 y3 y4 y5 y6 y7) (kinkeeplaw35_QuotaReturns.l0 (k + 1) y0 y1 y2 y3 y4 y5 y6 y7)) ∧ (∀ y0 y1 y2 y3 y4 y5 y6 y7 y8, LeO (kinkeeplaw35_QuotaReturns.j2 k y0 y1 y2 y3 y4 y5 y6 y7 y8) (kinkeeplaw35_QuotaReturns.j2 (k + 1) y0 y1 y2 y3 y4 y5 y6 y7 y8))
  | 0 => ⟨fun _ _ _ _ _ _ _ _ r h => by simp [kinkeeplaw35_QuotaReturns.j0] at h, fun _ _ _ _ _ _ _ _ r h => by simp [kinkeeplaw35_QuotaReturns.l0] at h, fun _ _ _ _ _ _ _ _ _ r h => by simp [kinkeeplaw35_QuotaReturns.j2] at h⟩
  | k + 1 => by
    obtain ⟨ih0, ih1, ih2⟩ := kinkeeplaw35_QuotaReturns.mono_l k
    refine ⟨?_, ?_, ?_⟩
    · intro y0 y1 y2 y3 y4 y5 y6 y7
      unfold kinkeeplaw35_QuotaReturns.j0
      repeat' first
      | (with_reducible exact ih0 _ _ _ _ _ _ _ _)
      | (with_reducible exact ih1 _ _ _ _ _ _ _ _)
      | (with_reducible exact ih2 _ _ _ _ _ _ _ _ _)
      | (with_reducible exact kinkeeplaw35_awake.mono _)
      | (with_reducible exact kinkeepref35_Same.mono _ _ _)
      | (with_reducible exact quota_Apply.mono _ _ _)
      | (with_reducible exact quota_Balance.mono _ _)
      | (with_reducible exact LeO.refl _)
      | (with_reducible exact LeO.none _)
      | (with_reducible refine LeO.ite ?_ ?_)
      | (with_reducible refine LeO.bind ?_ (fun _ => ?_))
      | exact ih0 _ _ _ _ _ _ _ _
      | exact ih1 _ _ _ _ _ _ _ _
      | exact ih2 _ _ _ _ _ _ _ _ _
      | exact kinkeeplaw35_awake.mono _
      | exact kinkeepref35_Same.mono _ _ _
      | exact quota_Apply.mono _ _ _
      | exact quota_Balance.mono _ _
      | exact LeO.none _
      | refine LeO.ite ?_ ?_
      | refine LeO.bind ?_ (fun _ => ?_)
    · intro y0 y1 y2 y3 y4 y5 y6 y7
      unfold kinkeeplaw35_QuotaReturns.l0
      repeat' first
      | (with_reducible exact ih0 _ _ _ _ _ _ _ _)
      | (with_reducible exact ih1 _ _ _ _ _ _ _ _)
      | (with_reducible exact ih2 _ _ _ _ _ _ _ _ _)
      | (with_reducible exact kinkeeplaw35_awake.mono _)
      | (with_reducible exact kinkeepref35_Same.mono _ _ _)
      | (with_reducible exact quota_Apply.mono _ _ _)
      | (with_reducible exact quota_Balance.mono _ _)
      | (with_reducible exact LeO.refl _)
      | (with_reducible exact LeO.none _)
      | (with_reducible refine LeO.ite ?_ ?_)
      | (with_reducible refine LeO.bind ?_ (fun _ => ?_))
      | exact ih0 _ _ _ _ _ _ _ _
      | exact ih1 _ _ _ _ _ _ _ _
      | exact ih2 _ _ _ _ _ _ _ _ _
      | exact kinkeeplaw35_awake.mono _
      | exact kinkeepref35_Same.mono _ _ _
      | exact quota_Apply.mono _ _ _
      | exact quota_Balance.mono _ _
      | exact LeO.none _
      | refine LeO.ite ?_ ?_
      | refine LeO.bind ?_ (fun _ => ?_)
    · intro y0 y1 y2 y3 y4 y5 y6 y7 y8
      unfold kinkeeplaw35_QuotaReturns.j2
      repeat' first
      | (with_reducible exact ih0 _ _ _ _ _ _ _ _)
      | (with_reducible exact ih1 _ _ _ _ _ _ _ _)
      | (with_reducible exact ih2 _ _ _ _ _ _ _ _ _)
      | (with_reducible exact kinkeeplaw35_awake.mono _)
      | (with_reducible exact kinkeepref35_Same.mono _ _ _)
      | (with_reducible exact quota_Apply.mono _ _ _)
      | (with_reducible exact quota_Balance.mono _ _)
      | (with_reducible exact LeO.refl _)
      | (with_reducible exact LeO.none _)
      | (with_reducible refine LeO.ite ?_ ?_)
      | (with_reducible refine LeO.bind ?_ (fun _ => ?_))
      | exact ih0 _ _ _ _ _ _ _ _
      | exact ih1 _ _ _ _ _ _ _ _
      | exact ih2 _ _ _ _ _ _ _ _ _
      | exact kinkeeplaw35_awake.mono _
      | exact kinkeepref35_Same.mono _ _ _
      | exact quota_Apply.mono _ _ _
      | exact quota_Balance.mono _ _
      | exact LeO.none _
      | refine LeO.ite ?_ ?_
      | refine LeO.bind ?_ (fun _ => ?_)
theorem kinkeeplaw35_QuotaReturns.mono : ∀ a0 a1 a2 a3 a4 k, LeO (kinkeeplaw35_QuotaReturns.f k a0 a1 a2 a3 a4) (kinkeeplaw35_QuotaReturns.f (k + 1) a0 a1 a2 a3 a4) := by
  intro a0 a1 a2 a3 a4 k
  obtain ⟨ih0, ih1, ih2⟩ := kinkeeplaw35_QuotaReturns.mono_l k
  unfold kinkeeplaw35_QuotaReturns.f
  repeat' first
      | (with_reducible exact ih0 _ _ _ _ _ _ _ _)
      | (with_reducible exact ih1 _ _ _ _ _ _ _ _)
      | (with_reducible exact ih2 _ _ _ _ _ _ _ _ _)
      | (with_reducible exact kinkeeplaw35_awake.mono _)
      | (with_reducible exact kinkeepref35_Same.mono _ _ _)
      | (with_reducible exact quota_Apply.mono _ _ _)
      | (with_reducible exact quota_Balance.mono _ _)
      | (with_reducible exact LeO.refl _)
      | (with_reducible exact LeO.none _)
      | (with_reducible refine LeO.ite ?_ ?_)
      | (with_reducible refine LeO.bind ?_ (fun _ => ?_))
      | exact ih0 _ _ _ _ _ _ _ _
      | exact ih1 _ _ _ _ _ _ _ _
      | exact ih2 _ _ _ _ _ _ _ _ _
      | exact kinkeeplaw35_awake.mono _
      | exact kinkeepref35_Same.mono _ _ _
      | exact quota_Apply.mono _ _ _
      | exact quota_Balance.mono _ _
      | exact LeO.none _
      | refine LeO.ite ?_ ?_
      | refine LeO.bind ?_ (fun _ => ?_)
set_option maxHeartbeats 8000000 in
set_option maxRecDepth 100000 in
theorem kinkeeplaw35_QuotaReturns.calls (k : Nat) (A0 : Option Addr) (c0 : Nat) (l0 : List (List Int)) (a1_0 : Int) (a1_1 : Int) (a1_2 : Int) (a1_3 : Int) (r : Bool) (w : World) (hr0 : Kd.C (Kd.slice 3 (Kd.int .i64)) w A0 l0.length l0) (hc0 : l0.length ≤ c0) (h : kinkeeplaw35_QuotaReturns.f k l0 a1_0 a1_1 a1_2 a1_3 = some r) :
    Calls Try.prog 3 #[.slice A0 l0.length c0, .agg #[.int .i64 a1_0, .int .i64 a1_1, .int .i64 a1_2, .int .i64 a1_3]] w fun e w' => e = .returned (.bool r) ∧ Below w.heap.size w w' := by
  have hu24 := Try.underlying24
  have hu29 := Try.underlying29
  have HR0 := Aside0.mk hr0
  have HC0 := Aside0.mk hc0
  clear hr0 hc0
  have HB := Aside0.mk (Below.refl w.heap.size w)
  have H : ((kinkeeplaw35_awake.f k).bind fun t270 => (if t270 = true then (if (l0.length : Int) > 12 then (some true) else ((quota_Apply.f k l0 (([(⟨a1_0, a1_1, a1_2, a1_3⟩ : S29)] : List (S29)))).bind fun bt274 => (if bt274.2 = 0 then ((quota_Apply.f k bt274.1 (([(⟨a1_1, a1_0, a1_2, a1_3⟩ : S29)] : List (S29)))).bind fun bt281 => ((quota_Balance.f k l0).bind fun bt285 => ((quota_Balance.f k bt274.1).bind fun bt289 => (if bt281.2 = 0 then (if bt285.2 = 0 then (if bt289.2 = 0 then ((kinkeepref35_Same.f k bt281.1 l0).bind fun t293 => (if t293 = true then (if (bt285.1.length : Int) = (l0.length : Int) then (kinkeeplaw35_QuotaReturns.j0 k l0 bt285.1 bt289.1 ((bt289.1.length : Int) != (l0.length : Int)) a1_0 a1_1 a1_2 a1_3) else (kinkeeplaw35_QuotaReturns.j0 k l0 bt285.1 bt289.1 true a1_0 a1_1 a1_2 a1_3)) else (kinkeeplaw35_QuotaReturns.j0 k l0 bt285.1 bt289.1 true a1_0 a1_1 a1_2 a1_3))) else (kinkeeplaw35_QuotaReturns.j0 k l0 bt285.1 bt289.1 true a1_0 a1_1 a1_2 a1_3)) else (kinkeeplaw35_QuotaReturns.j0 k l0 bt285.1 bt289.1 true a1_0 a1_1 a1_2 a1_3)) else (kinkeeplaw35_QuotaReturns.j0 k l0 bt285.1 bt289.1 true a1_0 a1_1 a1_2 a1_3))))) else (some ((bt274.1.length : Int) == 0))))) else (some false))) = some r := h
  clear h
  replace H := Option.bind_eq_some_iff.mp H
  obtain ⟨t270, A30, H⟩ := H
  replace H : (if t270 = true then (if (l0.length : Int) > 12 then (some true) else ((quota_Apply.f k l0 (([(⟨a1_0, a1_1, a1_2, a1_3⟩ : S29)] : List (S29)))).bind fun bt274 => (if bt274.2 = 0 then ((quota_Apply.f k bt274.1 (([(⟨a1_1, a1_0, a1_2, a1_3⟩ : S29)] : List (S29)))).bind fun bt281 => ((quota_Balance.f k l0).bind fun bt285 => ((quota_Balance.f k bt274.1).bind fun bt289 => (if bt281.2 = 0 then (if bt285.2 = 0 then (if bt289.2 = 0 then ((kinkeepref35_Same.f k bt281.1 l0).bind fun t293 => (if t293 = true then (if (bt285.1.length : Int) = (l0.length : Int) then (kinkeeplaw35_QuotaReturns.j0 k l0 bt285.1 bt289.1 ((bt289.1.length : Int) != (l0.length : Int)) a1_0 a1_1 a1_2 a1_3) else (kinkeeplaw35_QuotaReturns.j0 k l0 bt285.1 bt289.1 true a1_0 a1_1 a1_2 a1_3)) else (kinkeeplaw35_QuotaReturns.j0 k l0 bt285.1 bt289.1 true a1_0 a1_1 a1_2 a1_3))) else (kinkeeplaw35_QuotaReturns.j0 k l0 bt285.1 bt289.1 true a1_0 a1_1 a1_2 a1_3)) else (kinkeeplaw35_QuotaReturns.j0 k l0 bt285.1 bt289.1 true a1_0 a1_1 a1_2 a1_3)) else (kinkeeplaw35_QuotaReturns.j0 k l0 bt285.1 bt289.1 true a1_0 a1_1 a1_2 a1_3))))) else (some ((bt274.1.length : Int) == 0))))) else (some false)) = some r := H
  have A3 := Aside0.mk A30
  clear A30
  by_cases c4 : t270 = true
  · subst c4
    have H1 : (if (l0.length : Int) > 12 then (some true) else ((quota_Apply.f k l0 (([(⟨a1_0, a1_1, a1_2, a1_3⟩ : S29)] : List (S29)))).bind fun bt274 => (if bt274.2 = 0 then ((quota_Apply.f k bt274.1 (([(⟨a1_1, a1_0, a1_2, a1_3⟩ : S29)] : List (S29)))).bind fun bt281 => ((quota_Balance.f k l0).bind fun bt285 => ((quota_Balance.f k bt274.1).bind fun bt289 => (if bt281.2 = 0 then (if bt285.2 = 0 then (if bt289.2 = 0 then ((kinkeepref35_Same.f k bt281.1 l0).bind fun t293 => (if t293 = true then (if (bt285.1.length : Int) = (l0.length : Int) then (kinkeeplaw35_QuotaReturns.j0 k l0 bt285.1 bt289.1 ((bt289.1.length : Int) != (l0.length : Int)) a1_0 a1_1 a1_2 a1_3) else (kinkeeplaw35_QuotaReturns.j0 k l0 bt285.1 bt289.1 true a1_0 a1_1 a1_2 a1_3)) else (kinkeeplaw35_QuotaReturns.j0 k l0 bt285.1 bt289.1 true a1_0 a1_1 a1_2 a1_3))) else (kinkeeplaw35_QuotaReturns.j0 k l0 bt285.1 bt289.1 true a1_0 a1_1 a1_2 a1_3)) else (kinkeeplaw35_QuotaReturns.j0 k l0 bt285.1 bt289.1 true a1_0 a1_1 a1_2 a1_3)) else (kinkeeplaw35_QuotaReturns.j0 k l0 bt285.1 bt289.1 true a1_0 a1_1 a1_2 a1_3))))) else (some ((bt274.1.length : Int) == 0))))) = some r := by rw [if_pos rfl] at H; exact H
    clear H
    have H := H1
    clear H1
    by_cases c5 : (l0.length : Int) > 12
    · rw [if_pos c5] at H
      have c5b0 : decide (12 < (l0.length : Int)) = true := decide_eq_true c5
      have c5b1 : decide (12 < l0.length) = true := decide_eq_true (by omega)
      clear c5
      obtain rfl := Option.some.inj H
      go_enter Try.func3, Try.ntmps3
      go_wp2_with (first | ((with_reducible refine gate_dst (N := 3) rfl ?_); (try (refine gate_guard (by rfl) ?_; dsimp only)); refine box_event ?hg (N := 3) ?hd (cs := #[.int .i64 a1_0, .int .i64 a1_1, .int .i64 a1_2, .int .i64 a1_3]) (t := 24) ?hr ?_; (case hd => rfl); (case hg => rfl); (case hr => first | (go_simp; done) | (go_simp; rfl)); intro gb269 hg w6 hbox hb; have n0_ := Aside0.mk (below_step (by repeat (first | (with_reducible first | exact HB.out | apply below_alloc | apply pw_below_drewN | apply below_drew1) | exact HB.out)) hb); have n1_ := Aside0.mk (hbox); have n2_ := Aside0.mk ((by rw [hg]; exact (below_size (by repeat (first | (with_reducible first | exact HB.out | apply below_alloc | apply pw_below_drewN | apply below_drew1) | exact HB.out))) : w.heap.size ≤ gb269)); have n3_ := Aside0.mk ((by rw [hg]; exact (below_size (by repeat (first | (with_reducible first | exact HB.out | apply below_alloc | apply pw_below_drewN | apply below_drew1) | exact HB.out))) : w.heap.size ≤ gb269)); clear HB; have HB := n0_; have BK269 := n1_; have GW269 := n2_; have GE269 := n3_; clear n0_ n1_ n2_ n3_; clear hb hbox hg) | ((with_reducible refine gate_callee (f := 14) rfl ?_); refine goesL_ (some 15) rfl rfl Try.func14 (by kernel_rfl) rfl #[] rfl (by (try simp only [List.map_toArray, List.map_cons, List.map_nil]); first | done | rfl | (simp only [List.length_drop, List.length_take]; rfl)) ?_; (with_reducible refine (kinkeeplaw35_awake.calls k  true _ A3.out).mono ?_); rintro e w7 ⟨rfl, hb⟩; refine ⟨_, rfl, ?_⟩; have n0_ := Aside0.mk (blk_below (g := gb269) (o := .cells #[.int .i64 a1_0, .int .i64 a1_1, .int .i64 a1_2, .int .i64 a1_3] 24 (0, 0)) (by (with_reducible repeat (first | refine blk_drewN ?_ _ | refine blk_drew ?_ | refine blk_alloc ?_ _)); exact BK269.out) hb); have n1_ := Aside0.mk (below_step (by repeat (first | (with_reducible first | exact HB.out | apply below_alloc | apply pw_below_drewN | apply below_drew1 | refine below_set ?_ GE269.out) | exact HB.out)) hb); clear BK269; clear HB; have BK269 := n0_; have HB := n1_; clear n0_ n1_; (try clear hb); (try clear hb2); (try clear hk); (try clear hi)))
      go_ret
      exact ⟨by first | rfl | (simp [errW_none, errW_some] <;> rfl) | (simp [*, errW_none, errW_some] <;> rfl), by repeat (first | (with_reducible first | exact HB.out | apply below_alloc | apply pw_below_drewN | apply below_drew1 | refine below_set ?_ GE269.out) | exact HB.out)⟩
    · rw [if_neg c5] at H
      have c5b0 : decide (12 < (l0.length : Int)) = false := decide_eq_false c5
      have c5b1 : decide (12 < l0.length) = false := decide_eq_false (by omega)
      clear c5
      obtain ⟨y271, hy271⟩ : ∃ y_ : List (S29), y_ = (([(⟨a1_0, a1_1, a1_2, a1_3⟩ : S29)] : List (S29))) := ⟨_, rfl⟩
      replace H : ((quota_Apply.f k l0 y271).bind fun bt274 => (if bt274.2 = 0 then ((quota_Apply.f k bt274.1 (([(⟨a1_1, a1_0, a1_2, a1_3⟩ : S29)] : List (S29)))).bind fun bt281 => ((quota_Balance.f k l0).bind fun bt285 => ((quota_Balance.f k bt274.1).bind fun bt289 => (if bt281.2 = 0 then (if bt285.2 = 0 then (if bt289.2 = 0 then ((kinkeepref35_Same.f k bt281.1 l0).bind fun t293 => (if t293 = true then (if (bt285.1.length : Int) = (l0.length : Int) then (kinkeeplaw35_QuotaReturns.j0 k l0 bt285.1 bt289.1 ((bt289.1.length : Int) != (l0.length : Int)) a1_0 a1_1 a1_2 a1_3) else (kinkeeplaw35_QuotaReturns.j0 k l0 bt285.1 bt289.1 true a1_0 a1_1 a1_2 a1_3)) else (kinkeeplaw35_QuotaReturns.j0 k l0 bt285.1 bt289.1 true a1_0 a1_1 a1_2 a1_3))) else (kinkeeplaw35_QuotaReturns.j0 k l0 bt285.1 bt289.1 true a1_0 a1_1 a1_2 a1_3)) else (kinkeeplaw35_QuotaReturns.j0 k l0 bt285.1 bt289.1 true a1_0 a1_1 a1_2 a1_3)) else (kinkeeplaw35_QuotaReturns.j0 k l0 bt285.1 bt289.1 true a1_0 a1_1 a1_2 a1_3))))) else (some ((bt274.1.length : Int) == 0)))) = some r := by first | (rw [hy271]; with_reducible exact H) | (have H2_ := (Option.bind_some _ _).symm.trans H; rw [hy271]; with_reducible exact H2_) | (have H2_ := (Option.bind_some _ _).symm.trans H; with_reducible exact H2_) | with_reducible exact H | (rw [hy271]; exact H) | exact H
      have Ny271 := Aside0.mk hy271
      clear hy271
      replace H := Option.bind_eq_some_iff.mp H
      obtain ⟨⟨t274, t275⟩, A80, H⟩ := H
      replace H : (if t275 = 0 then ((quota_Apply.f k t274 (([(⟨a1_1, a1_0, a1_2, a1_3⟩ : S29)] : List (S29)))).bind fun bt281 => ((quota_Balance.f k l0).bind fun bt285 => ((quota_Balance.f k t274).bind fun bt289 => (if bt281.2 = 0 then (if bt285.2 = 0 then (if bt289.2 = 0 then ((kinkeepref35_Same.f k bt281.1 l0).bind fun t293 => (if t293 = true then (if (bt285.1.length : Int) = (l0.length : Int) then (kinkeeplaw35_QuotaReturns.j0 k l0 bt285.1 bt289.1 ((bt289.1.length : Int) != (l0.length : Int)) a1_0 a1_1 a1_2 a1_3) else (kinkeeplaw35_QuotaReturns.j0 k l0 bt285.1 bt289.1 true a1_0 a1_1 a1_2 a1_3)) else (kinkeeplaw35_QuotaReturns.j0 k l0 bt285.1 bt289.1 true a1_0 a1_1 a1_2 a1_3))) else (kinkeeplaw35_QuotaReturns.j0 k l0 bt285.1 bt289.1 true a1_0 a1_1 a1_2 a1_3)) else (kinkeeplaw35_QuotaReturns.j0 k l0 bt285.1 bt289.1 true a1_0 a1_1 a1_2 a1_3)) else (kinkeeplaw35_QuotaReturns.j0 k l0 bt285.1 bt289.1 true a1_0 a1_1 a1_2 a1_3))))) else (some ((t274.length : Int) == 0))) = some r := H
      have A8 := Aside0.mk A80
      clear A80
      by_cases c9 : t275 = 0
      · rw [if_pos c9] at H
        have c9b0 : (t275 == 0) = true := beq_iff_eq.mpr c9
        have c9b1 : (t275 != 0) = false := bne_eq_false_iff_eq.mpr c9
        clear c9
        obtain ⟨y278, hy278⟩ : ∃ y_ : List (S29), y_ = (([(⟨a1_1, a1_0, a1_2, a1_3⟩ : S29)] : List (S29))) := ⟨_, rfl⟩
        replace H : ((quota_Apply.f k t274 y278).bind fun bt281 => ((quota_Balance.f k l0).bind fun bt285 => ((quota_Balance.f k t274).bind fun bt289 => (if bt281.2 = 0 then (if bt285.2 = 0 then (if bt289.2 = 0 then ((kinkeepref35_Same.f k bt281.1 l0).bind fun t293 => (if t293 = true then (if (bt285.1.length : Int) = (l0.length : Int) then (kinkeeplaw35_QuotaReturns.j0 k l0 bt285.1 bt289.1 ((bt289.1.length : Int) != (l0.length : Int)) a1_0 a1_1 a1_2 a1_3) else (kinkeeplaw35_QuotaReturns.j0 k l0 bt285.1 bt289.1 true a1_0 a1_1 a1_2 a1_3)) else (kinkeeplaw35_QuotaReturns.j0 k l0 bt285.1 bt289.1 true a1_0 a1_1 a1_2 a1_3))) else (kinkeeplaw35_QuotaReturns.j0 k l0 bt285.1 bt289.1 true a1_0 a1_1 a1_2 a1_3)) else (kinkeeplaw35_QuotaReturns.j0 k l0 bt285.1 bt289.1 true a1_0 a1_1 a1_2 a1_3)) else (kinkeeplaw35_QuotaReturns.j0 k l0 bt285.1 bt289.1 true a1_0 a1_1 a1_2 a1_3))))) = some r := by first | (rw [hy278]; with_reducible exact H) | (have H2_ := (Option.bind_some _ _).symm.trans H; rw [hy278]; with_reducible exact H2_) | (have H2_ := (Option.bind_some _ _).symm.trans H; with_reducible exact H2_) | with_reducible exact H | (rw [hy278]; exact H) | exact H
        have Ny278 := Aside0.mk hy278
        clear hy278
        replace H := Option.bind_eq_some_iff.mp H
        obtain ⟨⟨t281, t282⟩, A100, H⟩ := H
        replace H : ((quota_Balance.f k l0).bind fun bt285 => ((quota_Balance.f k t274).bind fun bt289 => (if t282 = 0 then (if bt285.2 = 0 then (if bt289.2 = 0 then ((kinkeepref35_Same.f k t281 l0).bind fun t293 => (if t293 = true then (if (bt285.1.length : Int) = (l0.length : Int) then (kinkeeplaw35_QuotaReturns.j0 k l0 bt285.1 bt289.1 ((bt289.1.length : Int) != (l0.length : Int)) a1_0 a1_1 a1_2 a1_3) else (kinkeeplaw35_QuotaReturns.j0 k l0 bt285.1 bt289.1 true a1_0 a1_1 a1_2 a1_3)) else (kinkeeplaw35_QuotaReturns.j0 k l0 bt285.1 bt289.1 true a1_0 a1_1 a1_2 a1_3))) else (kinkeeplaw35_QuotaReturns.j0 k l0 bt285.1 bt289.1 true a1_0 a1_1 a1_2 a1_3)) else (kinkeeplaw35_QuotaReturns.j0 k l0 bt285.1 bt289.1 true a1_0 a1_1 a1_2 a1_3)) else (kinkeeplaw35_QuotaReturns.j0 k l0 bt285.1 bt289.1 true a1_0 a1_1 a1_2 a1_3)))) = some r := H
        have A10 := Aside0.mk A100
        clear A100
        replace H := Option.bind_eq_some_iff.mp H
        obtain ⟨⟨t285, t286⟩, A110, H⟩ := H
        replace H : ((quota_Balance.f k t274).bind fun bt289 => (if t282 = 0 then (if t286 = 0 then (if bt289.2 = 0 then ((kinkeepref35_Same.f k t281 l0).bind fun t293 => (if t293 = true then (if (t285.length : Int) = (l0.length : Int) then (kinkeeplaw35_QuotaReturns.j0 k l0 t285 bt289.1 ((bt289.1.length : Int) != (l0.length : Int)) a1_0 a1_1 a1_2 a1_3) else (kinkeeplaw35_QuotaReturns.j0 k l0 t285 bt289.1 true a1_0 a1_1 a1_2 a1_3)) else (kinkeeplaw35_QuotaReturns.j0 k l0 t285 bt289.1 true a1_0 a1_1 a1_2 a1_3))) else (kinkeeplaw35_QuotaReturns.j0 k l0 t285 bt289.1 true a1_0 a1_1 a1_2 a1_3)) else (kinkeeplaw35_QuotaReturns.j0 k l0 t285 bt289.1 true a1_0 a1_1 a1_2 a1_3)) else (kinkeeplaw35_QuotaReturns.j0 k l0 t285 bt289.1 true a1_0 a1_1 a1_2 a1_3))) = some r := H
        have A11 := Aside0.mk A110
        clear A110
        replace H := Option.bind_eq_some_iff.mp H
        obtain ⟨⟨t289, t290⟩, A120, H⟩ := H
        replace H : (if t282 = 0 then (if t286 = 0 then (if t290 = 0 then ((kinkeepref35_Same.f k t281 l0).bind fun t293 => (if t293 = true then (if (t285.length : Int) = (l0.length : Int) then (kinkeeplaw35_QuotaReturns.j0 k l0 t285 t289 ((t289.length : Int) != (l0.length : Int)) a1_0 a1_1 a1_2 a1_3) else (kinkeeplaw35_QuotaReturns.j0 k l0 t285 t289 true a1_0 a1_1 a1_2 a1_3)) else (kinkeeplaw35_QuotaReturns.j0 k l0 t285 t289 true a1_0 a1_1 a1_2 a1_3))) else (kinkeeplaw35_QuotaReturns.j0 k l0 t285 t289 true a1_0 a1_1 a1_2 a1_3)) else (kinkeeplaw35_QuotaReturns.j0 k l0 t285 t289 true a1_0 a1_1 a1_2 a1_3)) else (kinkeeplaw35_QuotaReturns.j0 k l0 t285 t289 true a1_0 a1_1 a1_2 a1_3)) = some r := H
        have A12 := Aside0.mk A120
        clear A120
        have HC13 := Aside0.mk H
        clear H
        go_enter Try.func3, Try.ntmps3
        go_upto_region 11 with (first | ((with_reducible refine gate_dst (N := 3) rfl ?_); (try (refine gate_guard (by rfl) ?_; dsimp only)); refine box_event ?hg (N := 3) ?hd (cs := #[.int .i64 a1_0, .int .i64 a1_1, .int .i64 a1_2, .int .i64 a1_3]) (t := 24) ?hr ?_; (case hd => rfl); (case hg => rfl); (case hr => first | (go_simp; done) | (go_simp; rfl)); intro gb269 hg w14 hbox hb; have n0_ := Aside0.mk (below_step (by repeat (first | (with_reducible first | exact HB.out | apply below_alloc | apply pw_below_drewN | apply below_drew1) | exact HB.out)) hb); have n1_ := Aside0.mk (hbox); have n2_ := Aside0.mk ((by rw [hg]; exact (below_size (by repeat (first | (with_reducible first | exact HB.out | apply below_alloc | apply pw_below_drewN | apply below_drew1) | exact HB.out))) : w.heap.size ≤ gb269)); have n3_ := Aside0.mk ((by rw [hg]; exact (below_size (by repeat (first | (with_reducible first | exact HB.out | apply below_alloc | apply pw_below_drewN | apply below_drew1) | exact HB.out))) : w.heap.size ≤ gb269)); clear HB; have HB := n0_; have BK269 := n1_; have GW269 := n2_; have GE269 := n3_; clear n0_ n1_ n2_ n3_; clear hb hbox hg) | ((with_reducible refine gate_callee (f := 14) rfl ?_); refine goesL_ (some 15) rfl rfl Try.func14 (by kernel_rfl) rfl #[] rfl (by (try simp only [List.map_toArray, List.map_cons, List.map_nil]); first | done | rfl | (simp only [List.length_drop, List.length_take]; rfl)) ?_; (with_reducible refine (kinkeeplaw35_awake.calls k  true _ A3.out).mono ?_); rintro e w15 ⟨rfl, hb⟩; refine ⟨_, rfl, ?_⟩; have n0_ := Aside0.mk (blk_below (g := gb269) (o := .cells #[.int .i64 a1_0, .int .i64 a1_1, .int .i64 a1_2, .int .i64 a1_3] 24 (0, 0)) (by (with_reducible repeat (first | refine blk_drewN ?_ _ | refine blk_drew ?_ | refine blk_alloc ?_ _)); exact BK269.out) hb); have n1_ := Aside0.mk (below_step (by repeat (first | (with_reducible first | exact HB.out | apply below_alloc | apply pw_below_drewN | apply below_drew1 | refine below_set ?_ GE269.out) | exact HB.out)) hb); clear BK269; clear HB; have BK269 := n0_; have HB := n1_; clear n0_ n1_; (try clear hb); (try clear hb2); (try clear hk); (try clear hi); have hcz16_0 : w15.cell? ⟨gb269, 0, none⟩ = some (.int .i64 a1_0) := (blk_cell BK269.out 0).trans rfl; have hcz16_1 : w15.cell? ⟨gb269, 1, none⟩ = some (.int .i64 a1_1) := (blk_cell BK269.out 1).trans rfl; have hcz16_2 : w15.cell? ⟨gb269, 2, none⟩ = some (.int .i64 a1_2) := (blk_cell BK269.out 2).trans rfl; have hcz16_3 : w15.cell? ⟨gb269, 3, none⟩ = some (.int .i64 a1_3) := (blk_cell BK269.out 3).trans rfl; have hfz16_0 := blk_frozen BK269.out 0; have hfz16_1 := blk_frozen BK269.out 1; have hfz16_2 := blk_frozen BK269.out 2; have hfz16_3 := blk_frozen BK269.out 3) | ((with_reducible refine gate_dst (N := 23) rfl ?_); (try (refine gate_guard (by rfl) ?_; dsimp only)); refine Kd.R_lit k29 _ 29 ?hg (N := 23) ?hd (xs := ([(⟨a1_0, a1_1, a1_2, a1_3⟩ : S29)] : List (S29))) (inner := [.int .i64 a1_0, .int .i64 a1_1, .int .i64 a1_2, .int .i64 a1_3]) (ok := fun _ => True) (okp := fun _ => True) ?hr ?hp (fun _ hk => hk) trivial (Below.refl _ _) (Nat.le_refl _) (by simp) ?_; (case hd => rfl); (case hg => rfl); (case hr => first | (go_simp; done) | (go_simp; rfl)); (case hp => exact (Reps.c4 (show Kd.M k29 _ _ _ (⟨a1_0, a1_1, a1_2, a1_3⟩ : S29) [.int .i64 a1_0, .int .i64 a1_1, .int .i64 a1_2, .int .i64 a1_3] from (k29_mkM _ _ _ (⟨a1_0, a1_1, a1_2, a1_3⟩ : S29) )) (Reps.none _ _))); intro v272 w17 ho18 hb hg_ hnew_; clear hg_ hnew_; (first | rw [← Ny271.out] at ho18 | (simp only [Int.reduceToNat] at ho18; rw [← Ny271.out] at ho18)); have n0_ := Aside0.mk (Kd.R_lower ho18 (below_size (by repeat (first | (with_reducible first | exact HB.out | apply below_alloc | apply pw_below_drewN | apply below_drew1 | refine below_set ?_ GE269.out) | exact HB.out)))); have n1_ := Aside0.mk (blk_below (g := gb269) (o := .cells #[.int .i64 a1_0, .int .i64 a1_1, .int .i64 a1_2, .int .i64 a1_3] 24 (0, 0)) (by (with_reducible repeat (first | refine blk_drewN ?_ _ | refine blk_drew ?_ | refine blk_alloc ?_ _)); exact BK269.out) hb); have n2_ := Aside0.mk (below_step (by repeat (first | (with_reducible first | exact HB.out | apply below_alloc | apply pw_below_drewN | apply below_drew1 | refine below_set ?_ GE269.out) | exact HB.out)) hb); clear BK269; clear HB; have HO273 := n0_; have BK269 := n1_; have HB := n2_; clear n0_ n1_ n2_; clear hb ho18; obtain ⟨Ao19, co19, eo19⟩ := Kd.R_slice HO273.out; subst eo19) | ((with_reducible refine gate_callee (f := 15) rfl ?_); refine goesL_ (some 24) rfl rfl Try.func15 (by kernel_rfl) rfl #[.slice A0 l0.length c0, .slice Ao19 y271.length co19] rfl (by (try simp only [List.map_toArray, List.map_cons, List.map_nil]); first | done | rfl | (simp only [List.length_drop, List.length_take]; rfl)) ?_; (with_reducible refine (quota_Apply.calls k _ _ l0 _ _ y271 t274 t275 _ ?side1 ?side2 ?side3 ?side4 A8.out).mono ?_); (case side1 => repeat (first | exact (Kd.C_below HR0.out HB.out) | (with_reducible refine Kd.C_alloc ?_ _) | (with_reducible refine Kd.C_drewN ?_ _) | (with_reducible refine Kd.C_drew ?_))); (case side2 => exact HC0.out); (case side3 => repeat (first | exact (Kd.R_reads' HO273.out).2.2 | (with_reducible refine Kd.C_alloc ?_ _) | (with_reducible refine Kd.C_drewN ?_ _) | (with_reducible refine Kd.C_drew ?_))); (case side4 => exact (Kd.R_reads' HO273.out).2.1); rintro e w20 ⟨v276, rfl, ho0, hb⟩; refine ⟨_, rfl, ?_⟩; have n0_ := Aside0.mk (Kd.R_below (by (with_reducible repeat (first | apply Kd.R_alloc | apply Kd.R_drewN | apply Kd.R_drew)); exact HO273.out) hb); have n1_ := Aside0.mk (Kd.S_lower ho0 (below_size (by repeat (first | (with_reducible first | exact HB.out | apply below_alloc | apply pw_below_drewN | apply below_drew1 | refine below_set ?_ GE269.out) | exact HB.out)))); have n2_ := Aside0.mk (blk_below (g := gb269) (o := .cells #[.int .i64 a1_0, .int .i64 a1_1, .int .i64 a1_2, .int .i64 a1_3] 24 (0, 0)) (by (with_reducible repeat (first | refine blk_drewN ?_ _ | refine blk_drew ?_ | refine blk_alloc ?_ _)); exact BK269.out) hb); have n3_ := Aside0.mk (below_step (by repeat (first | (with_reducible first | exact HB.out | apply below_alloc | apply pw_below_drewN | apply below_drew1 | refine below_set ?_ GE269.out) | exact HB.out)) hb); clear HO273; clear BK269; clear HB; have HO273 := n0_; have HO277 := n1_; have BK269 := n2_; have HB := n3_; clear n0_ n1_ n2_ n3_; (try clear hb); (try clear hb2); (try clear hk); (try clear hi); (try clear ho0); have hcz21_0 : w20.cell? ⟨gb269, 0, none⟩ = some (.int .i64 a1_0) := (blk_cell BK269.out 0).trans rfl; have hcz21_1 : w20.cell? ⟨gb269, 1, none⟩ = some (.int .i64 a1_1) := (blk_cell BK269.out 1).trans rfl; have hcz21_2 : w20.cell? ⟨gb269, 2, none⟩ = some (.int .i64 a1_2) := (blk_cell BK269.out 2).trans rfl; have hcz21_3 : w20.cell? ⟨gb269, 3, none⟩ = some (.int .i64 a1_3) := (blk_cell BK269.out 3).trans rfl; have hfz21_0 := blk_frozen BK269.out 0; have hfz21_1 := blk_frozen BK269.out 1; have hfz21_2 := blk_frozen BK269.out 2; have hfz21_3 := blk_frozen BK269.out 3) | ((with_reducible refine gate_dst (N := 43) rfl ?_); (try (refine gate_guard (by rfl) ?_; dsimp only)); refine Kd.R_lit k29 _ 29 ?hg (N := 43) ?hd (xs := ([(⟨a1_1, a1_0, a1_2, a1_3⟩ : S29)] : List (S29))) (inner := [.int .i64 a1_1, .int .i64 a1_0, .int .i64 a1_2, .int .i64 a1_3]) (ok := fun _ => True) (okp := fun _ => True) ?hr ?hp (fun _ hk => hk) trivial (Below.refl _ _) (Nat.le_refl _) (by simp) ?_; (case hd => rfl); (case hg => rfl); (case hr => first | (go_simp; done) | (go_simp; rfl)); (case hp => exact (Reps.c4 (show Kd.M k29 _ _ _ (⟨a1_1, a1_0, a1_2, a1_3⟩ : S29) [.int .i64 a1_1, .int .i64 a1_0, .int .i64 a1_2, .int .i64 a1_3] from (k29_mkM _ _ _ (⟨a1_1, a1_0, a1_2, a1_3⟩ : S29) )) (Reps.none _ _))); intro v279 w22 ho23 hb hg_ hnew_; clear hg_ hnew_; (first | rw [← Ny278.out] at ho23 | (simp only [Int.reduceToNat] at ho23; rw [← Ny278.out] at ho23)); have n0_ := Aside0.mk (Kd.R_elder' (by (with_reducible repeat (first | apply Kd.R_alloc | apply Kd.R_drewN | apply Kd.R_drew)); exact HO273.out) (Kd.R_base ho23) hb); have n1_ := Aside0.mk (Kd.S_below (by (with_reducible repeat (first | apply Kd.S_alloc | apply Kd.S_drewN | apply Kd.S_drew)); exact HO277.out) hb); have n2_ := Aside0.mk (Kd.R_lower (Kd.R_new' ho23 (Kd.R_lt (by (with_reducible repeat (first | apply Kd.R_alloc | apply Kd.R_drewN | apply Kd.R_drew)); exact HO273.out))) (below_size (by repeat (first | (with_reducible first | exact HB.out | apply below_alloc | apply pw_below_drewN | apply below_drew1 | refine below_set ?_ GE269.out) | exact HB.out)))); have n3_ := Aside0.mk (blk_below (g := gb269) (o := .cells #[.int .i64 a1_0, .int .i64 a1_1, .int .i64 a1_2, .int .i64 a1_3] 24 (0, 0)) (by (with_reducible repeat (first | refine blk_drewN ?_ _ | refine blk_drew ?_ | refine blk_alloc ?_ _)); exact BK269.out) hb); have n4_ := Aside0.mk (below_step (by repeat (first | (with_reducible first | exact HB.out | apply below_alloc | apply pw_below_drewN | apply below_drew1 | refine below_set ?_ GE269.out) | exact HB.out)) hb); clear HO273; clear HO277; clear BK269; clear HB; have HO273 := n0_; have HO277 := n1_; have HO280 := n2_; have BK269 := n3_; have HB := n4_; clear n0_ n1_ n2_ n3_ n4_; clear hb ho23; obtain ⟨Ao24, co24, eo24⟩ := Kd.S_slice HO277.out; subst eo24; obtain ⟨Ao25, co25, eo25⟩ := Kd.R_slice HO280.out; subst eo25) | ((with_reducible refine gate_callee (f := 15) rfl ?_); refine goesL_ (some 44) rfl rfl Try.func15 (by kernel_rfl) rfl #[.slice Ao24 t274.length co24, .slice Ao25 y278.length co25] rfl (by (try simp only [List.map_toArray, List.map_cons, List.map_nil]); first | done | rfl | (simp only [List.length_drop, List.length_take]; rfl)) ?_; (with_reducible refine (quota_Apply.calls k _ _ t274 _ _ y278 t281 t282 _ ?side1 ?side2 ?side3 ?side4 A10.out).mono ?_); (case side1 => repeat (first | exact (Kd.S_reads' HO277.out).2.2 | (with_reducible refine Kd.C_alloc ?_ _) | (with_reducible refine Kd.C_drewN ?_ _) | (with_reducible refine Kd.C_drew ?_))); (case side2 => exact (Kd.S_reads' HO277.out).2.1); (case side3 => repeat (first | exact (Kd.R_reads' HO280.out).2.2 | (with_reducible refine Kd.C_alloc ?_ _) | (with_reducible refine Kd.C_drewN ?_ _) | (with_reducible refine Kd.C_drew ?_))); (case side4 => exact (Kd.R_reads' HO280.out).2.1); rintro e w26 ⟨v283, rfl, ho0, hb⟩; refine ⟨_, rfl, ?_⟩; have n0_ := Aside0.mk (Kd.R_below (by (with_reducible repeat (first | apply Kd.R_alloc | apply Kd.R_drewN | apply Kd.R_drew)); exact HO273.out) hb); have n1_ := Aside0.mk (Kd.S_elder' (by (with_reducible repeat (first | apply Kd.S_alloc | apply Kd.S_drewN | apply Kd.S_drew)); exact HO277.out) (Kd.S_base ho0) hb); have n2_ := Aside0.mk (Kd.R_below (by (with_reducible repeat (first | apply Kd.R_alloc | apply Kd.R_drewN | apply Kd.R_drew)); exact HO280.out) hb); have n3_ := Aside0.mk (Kd.S_lower (Kd.S_new' ho0 (Kd.S_lt (by (with_reducible repeat (first | apply Kd.S_alloc | apply Kd.S_drewN | apply Kd.S_drew)); exact HO277.out))) (below_size (by repeat (first | (with_reducible first | exact HB.out | apply below_alloc | apply pw_below_drewN | apply below_drew1 | refine below_set ?_ GE269.out) | exact HB.out)))); have n4_ := Aside0.mk (blk_below (g := gb269) (o := .cells #[.int .i64 a1_0, .int .i64 a1_1, .int .i64 a1_2, .int .i64 a1_3] 24 (0, 0)) (by (with_reducible repeat (first | refine blk_drewN ?_ _ | refine blk_drew ?_ | refine blk_alloc ?_ _)); exact BK269.out) hb); have n5_ := Aside0.mk (below_step (by repeat (first | (with_reducible first | exact HB.out | apply below_alloc | apply pw_below_drewN | apply below_drew1 | refine below_set ?_ GE269.out) | exact HB.out)) hb); clear HO273; clear HO277; clear HO280; clear BK269; clear HB; have HO273 := n0_; have HO277 := n1_; have HO280 := n2_; have HO284 := n3_; have BK269 := n4_; have HB := n5_; clear n0_ n1_ n2_ n3_ n4_ n5_; (try clear hb); (try clear hb2); (try clear hk); (try clear hi); (try clear ho0)) | ((with_reducible refine gate_callee (f := 16) rfl ?_); refine goesL_ (some 49) rfl rfl Try.func16 (by kernel_rfl) rfl #[.slice A0 l0.length c0] rfl (by (try simp only [List.map_toArray, List.map_cons, List.map_nil]); first | done | rfl | (simp only [List.length_drop, List.length_take]; rfl)) ?_; (with_reducible refine (quota_Balance.calls k _ _ l0 t285 t286 _ ?side1 ?side2 A11.out).mono ?_); (case side1 => repeat (first | exact (Kd.C_below HR0.out HB.out) | (with_reducible refine Kd.C_alloc ?_ _) | (with_reducible refine Kd.C_drewN ?_ _) | (with_reducible refine Kd.C_drew ?_))); (case side2 => exact HC0.out); rintro e w27 ⟨v287, rfl, ho0, hb⟩; refine ⟨_, rfl, ?_⟩; have n0_ := Aside0.mk (Kd.R_below (by (with_reducible repeat (first | apply Kd.R_alloc | apply Kd.R_drewN | apply Kd.R_drew)); exact HO273.out) hb); have n1_ := Aside0.mk (Kd.S_elder' (by (with_reducible repeat (first | apply Kd.S_alloc | apply Kd.S_drewN | apply Kd.S_drew)); exact HO277.out) (Kd.R_base ho0) hb); have n2_ := Aside0.mk (Kd.R_below (by (with_reducible repeat (first | apply Kd.R_alloc | apply Kd.R_drewN | apply Kd.R_drew)); exact HO280.out) hb); have n3_ := Aside0.mk (Kd.S_elder' (by (with_reducible repeat (first | apply Kd.S_alloc | apply Kd.S_drewN | apply Kd.S_drew)); exact HO284.out) (Kd.R_base ho0) hb); have n4_ := Aside0.mk (Kd.R_lower ho0 (below_size (by repeat (first | (with_reducible first | exact HB.out | apply below_alloc | apply pw_below_drewN | apply below_drew1 | refine below_set ?_ GE269.out) | exact HB.out)))); have n5_ := Aside0.mk (blk_below (g := gb269) (o := .cells #[.int .i64 a1_0, .int .i64 a1_1, .int .i64 a1_2, .int .i64 a1_3] 24 (0, 0)) (by (with_reducible repeat (first | refine blk_drewN ?_ _ | refine blk_drew ?_ | refine blk_alloc ?_ _)); exact BK269.out) hb); have n6_ := Aside0.mk (below_step (by repeat (first | (with_reducible first | exact HB.out | apply below_alloc | apply pw_below_drewN | apply below_drew1 | refine below_set ?_ GE269.out) | exact HB.out)) hb); clear HO273; clear HO277; clear HO280; clear HO284; clear BK269; clear HB; have HO273 := n0_; have HO277 := n1_; have HO280 := n2_; have HO284 := n3_; have HO288 := n4_; have BK269 := n5_; have HB := n6_; clear n0_ n1_ n2_ n3_ n4_ n5_ n6_; (try clear hb); (try clear hb2); (try clear hk); (try clear hi); (try clear ho0)) | ((with_reducible refine gate_callee (f := 16) rfl ?_); refine goesL_ (some 54) rfl rfl Try.func16 (by kernel_rfl) rfl #[.slice Ao24 t274.length co24] rfl (by (try simp only [List.map_toArray, List.map_cons, List.map_nil]); first | done | rfl | (simp only [List.length_drop, List.length_take]; rfl)) ?_; (with_reducible refine (quota_Balance.calls k _ _ t274 t289 t290 _ ?side1 ?side2 A12.out).mono ?_); (case side1 => repeat (first | exact (Kd.S_reads' HO277.out).2.2 | (with_reducible refine Kd.C_alloc ?_ _) | (with_reducible refine Kd.C_drewN ?_ _) | (with_reducible refine Kd.C_drew ?_))); (case side2 => exact (Kd.S_reads' HO277.out).2.1); rintro e w28 ⟨v291, rfl, ho0, hb⟩; refine ⟨_, rfl, ?_⟩; have n0_ := Aside0.mk (Kd.R_below (by (with_reducible repeat (first | apply Kd.R_alloc | apply Kd.R_drewN | apply Kd.R_drew)); exact HO273.out) hb); have n1_ := Aside0.mk (Kd.S_elder' (by (with_reducible repeat (first | apply Kd.S_alloc | apply Kd.S_drewN | apply Kd.S_drew)); exact HO277.out) (Kd.R_base ho0) hb); have n2_ := Aside0.mk (Kd.R_below (by (with_reducible repeat (first | apply Kd.R_alloc | apply Kd.R_drewN | apply Kd.R_drew)); exact HO280.out) hb); have n3_ := Aside0.mk (Kd.S_elder' (by (with_reducible repeat (first | apply Kd.S_alloc | apply Kd.S_drewN | apply Kd.S_drew)); exact HO284.out) (Kd.R_base ho0) hb); have n4_ := Aside0.mk (Kd.R_elder' (by (with_reducible repeat (first | apply Kd.R_alloc | apply Kd.R_drewN | apply Kd.R_drew)); exact HO288.out) (Kd.R_base ho0) hb); have n5_ := Aside0.mk (Kd.R_lower (Kd.R_new' ho0 (Kd.R_lt (by (with_reducible repeat (first | apply Kd.R_alloc | apply Kd.R_drewN | apply Kd.R_drew)); exact HO288.out))) (below_size (by repeat (first | (with_reducible first | exact HB.out | apply below_alloc | apply pw_below_drewN | apply below_drew1 | refine below_set ?_ GE269.out) | exact HB.out)))); have n6_ := Aside0.mk (blk_below (g := gb269) (o := .cells #[.int .i64 a1_0, .int .i64 a1_1, .int .i64 a1_2, .int .i64 a1_3] 24 (0, 0)) (by (with_reducible repeat (first | refine blk_drewN ?_ _ | refine blk_drew ?_ | refine blk_alloc ?_ _)); exact BK269.out) hb); have n7_ := Aside0.mk (below_step (by repeat (first | (with_reducible first | exact HB.out | apply below_alloc | apply pw_below_drewN | apply below_drew1 | refine below_set ?_ GE269.out) | exact HB.out)) hb); clear HO273; clear HO277; clear HO280; clear HO284; clear HO288; clear BK269; clear HB; have HO273 := n0_; have HO277 := n1_; have HO280 := n2_; have HO284 := n3_; have HO288 := n4_; have HO292 := n5_; have BK269 := n6_; have HB := n7_; clear n0_ n1_ n2_ n3_ n4_ n5_ n6_ n7_; (try clear hb); (try clear hb2); (try clear hk); (try clear hi); (try clear ho0)))
        (try simp only [Act.put, List.setIfInBounds_toArray, List.set_cons_zero, List.set_cons_succ])
        go_cut [86] (fun v86 wc => ∃ (kq : Nat) (x86_12 : Bool), v86 = .bool x86_12 ∧ Aside0 (kinkeeplaw35_QuotaReturns.j0 kq l0 t285 t289 x86_12 a1_0 a1_1 a1_2 a1_3 = some r) ∧ Aside0 (kq ≤ k) ∧ Aside0 (Kd.R (Kd.int .i64) 3 wc w.heap.size (fun k_ => some k_ ≠ (v291 : Value).ownBlock) v287 t285) ∧ Aside0 (Kd.R (Kd.int .i64) 3 wc w.heap.size (fun k_ => some k_ ≠ (v287 : Value).ownBlock) v291 t289) ∧ Aside0 (wc.heap[gb269]? = some (.cells #[.int .i64 a1_0, .int .i64 a1_1, .int .i64 a1_2, .int .i64 a1_3] 24 (0, 0))) ∧ Aside0 (Below w.heap.size w wc))
        case first =>
          have H := HC13.out
          clear HC13
          by_cases c29 : t282 = 0
          · rw [if_pos c29] at H
            have c29b0 : (t282 == 0) = true := beq_iff_eq.mpr c29
            have c29b1 : (t282 != 0) = false := bne_eq_false_iff_eq.mpr c29
            clear c29
            (first | rw [c29b0] | (simp only [i64_w, i32_w]; rw [c29b0]) | skip)
            by_cases c30 : t286 = 0
            · rw [if_pos c30] at H
              have c30b0 : (t286 == 0) = true := beq_iff_eq.mpr c30
              have c30b1 : (t286 != 0) = false := bne_eq_false_iff_eq.mpr c30
              clear c30
              by_cases c31 : t290 = 0
              · rw [if_pos c31] at H
                have c31b0 : (t290 == 0) = true := beq_iff_eq.mpr c31
                have c31b1 : (t290 != 0) = false := bne_eq_false_iff_eq.mpr c31
                clear c31
                replace H := Option.bind_eq_some_iff.mp H
                obtain ⟨t293, A320, H⟩ := H
                replace H : (if t293 = true then (if (t285.length : Int) = (l0.length : Int) then (kinkeeplaw35_QuotaReturns.j0 k l0 t285 t289 ((t289.length : Int) != (l0.length : Int)) a1_0 a1_1 a1_2 a1_3) else (kinkeeplaw35_QuotaReturns.j0 k l0 t285 t289 true a1_0 a1_1 a1_2 a1_3)) else (kinkeeplaw35_QuotaReturns.j0 k l0 t285 t289 true a1_0 a1_1 a1_2 a1_3)) = some r := H
                have A32 := Aside0.mk A320
                clear A320
                by_cases c33 : t293 = true
                · subst c33
                  have H1 : (if (t285.length : Int) = (l0.length : Int) then (kinkeeplaw35_QuotaReturns.j0 k l0 t285 t289 ((t289.length : Int) != (l0.length : Int)) a1_0 a1_1 a1_2 a1_3) else (kinkeeplaw35_QuotaReturns.j0 k l0 t285 t289 true a1_0 a1_1 a1_2 a1_3)) = some r := by rw [if_pos rfl] at H; exact H
                  clear H
                  have H := H1
                  clear H1
                  by_cases c34 : (t285.length : Int) = (l0.length : Int)
                  · rw [if_pos c34] at H
                    have c34b0 : ((t285.length : Int) == (l0.length : Int)) = true := beq_iff_eq.mpr c34
                    have c34b1 : ((t285.length : Int) != (l0.length : Int)) = false := bne_eq_false_iff_eq.mpr c34
                    have c34b2 : (t285.length == l0.length) = true := by first | simpa using c34 | (simp at c34 ⊢; omega)
                    clear c34
                    have H' := Aside0.mk H
                    clear H
                    obtain ⟨Ao35, co35, eo35⟩ := Kd.S_slice HO284.out
                    subst eo35
                    go_wp2_with (first | (go_at_call 17; (with_reducible refine (kinkeepref35_Same.calls k _ _ t281 _ _ l0 true _ ?side1 ?side2 ?side3 ?side4 A32.out).mono ?_); (case side1 => repeat (first | exact (Kd.S_reads' HO284.out).2.2 | (with_reducible refine Kd.C_alloc ?_ _) | (with_reducible refine Kd.C_drewN ?_ _) | (with_reducible refine Kd.C_drew ?_))); (case side2 => exact (Kd.S_reads' HO284.out).2.1); (case side3 => repeat (first | exact (Kd.C_below HR0.out HB.out) | (with_reducible refine Kd.C_alloc ?_ _) | (with_reducible refine Kd.C_drewN ?_ _) | (with_reducible refine Kd.C_drew ?_))); (case side4 => exact HC0.out); rintro e w' ⟨rfl, ⟨nd, rfl⟩⟩; obtain ⟨Ao36, co36, eo36⟩ := Kd.R_slice HO288.out; subst eo36; obtain ⟨Ao37, co37, eo37⟩ := Kd.R_slice HO292.out; subst eo37))
                    go_meet
                    case rel => exact ⟨_, (((t289.length : Int) != (l0.length : Int))), (by first | rfl | (simp; done) | (simp [*]; done)), H', ⟨by first | omega | exact Nat.le_refl _⟩, ⟨by (with_reducible repeat (first | apply Kd.R_alloc | apply Kd.R_drewN | apply Kd.R_drew)); exact Kd.R_mono HO288.out (fun _ hk => hk.2)⟩, ⟨by (with_reducible repeat (first | apply Kd.R_alloc | apply Kd.R_drewN | apply Kd.R_drew)); exact Kd.R_mono HO292.out (fun _ hk => hk.2)⟩, ⟨by (with_reducible repeat (first | refine blk_drewN ?_ _ | refine blk_drew ?_ | refine blk_alloc ?_ _)); exact BK269.out⟩, ⟨by repeat (first | (with_reducible first | exact HB.out | apply below_alloc | apply pw_below_drewN | apply below_drew1 | refine below_set ?_ GE269.out) | exact HB.out)⟩⟩
                  · rw [if_neg c34] at H
                    have c34b0 : ((t285.length : Int) == (l0.length : Int)) = false := beq_eq_false_iff_ne.mpr c34
                    have c34b1 : ((t285.length : Int) != (l0.length : Int)) = true := bne_iff_ne.mpr c34
                    have c34b2 : (t285.length == l0.length) = false := by first | simpa using c34 | (simp at c34 ⊢; omega)
                    have H' := Aside0.mk H
                    clear H
                    obtain ⟨Ao38, co38, eo38⟩ := Kd.S_slice HO284.out
                    subst eo38
                    go_wp2_with (first | (go_at_call 17; (with_reducible refine (kinkeepref35_Same.calls k _ _ t281 _ _ l0 true _ ?side1 ?side2 ?side3 ?side4 A32.out).mono ?_); (case side1 => repeat (first | exact (Kd.S_reads' HO284.out).2.2 | (with_reducible refine Kd.C_alloc ?_ _) | (with_reducible refine Kd.C_drewN ?_ _) | (with_reducible refine Kd.C_drew ?_))); (case side2 => exact (Kd.S_reads' HO284.out).2.1); (case side3 => repeat (first | exact (Kd.C_below HR0.out HB.out) | (with_reducible refine Kd.C_alloc ?_ _) | (with_reducible refine Kd.C_drewN ?_ _) | (with_reducible refine Kd.C_drew ?_))); (case side4 => exact HC0.out); rintro e w' ⟨rfl, ⟨nd, rfl⟩⟩; obtain ⟨Ao39, co39, eo39⟩ := Kd.R_slice HO288.out; subst eo39))
                    go_meet
                    case rel => exact ⟨_, (true), (by first | rfl | (simp; done) | (simp [*]; done)), H', ⟨by first | omega | exact Nat.le_refl _⟩, ⟨by (with_reducible repeat (first | apply Kd.R_alloc | apply Kd.R_drewN | apply Kd.R_drew)); exact Kd.R_mono HO288.out (fun _ hk => hk.2)⟩, ⟨by (with_reducible repeat (first | apply Kd.R_alloc | apply Kd.R_drewN | apply Kd.R_drew)); exact Kd.R_mono HO292.out (fun _ hk => hk.2)⟩, ⟨by (with_reducible repeat (first | refine blk_drewN ?_ _ | refine blk_drew ?_ | refine blk_alloc ?_ _)); exact BK269.out⟩, ⟨by repeat (first | (with_reducible first | exact HB.out | apply below_alloc | apply pw_below_drewN | apply below_drew1 | refine below_set ?_ GE269.out) | exact HB.out)⟩⟩
                · replace c33 := Bool.eq_false_iff.mpr c33
                  subst c33
                  have H1 : (kinkeeplaw35_QuotaReturns.j0 k l0 t285 t289 true a1_0 a1_1 a1_2 a1_3) = some r := by rw [if_neg (show ¬ (false = true) by decide)] at H; exact H
                  clear H
                  have H := H1
                  clear H1
                  have H' := Aside0.mk H
                  clear H
                  obtain ⟨Ao40, co40, eo40⟩ := Kd.S_slice HO284.out
                  subst eo40
                  go_wp2_with (first | (go_at_call 17; (with_reducible refine (kinkeepref35_Same.calls k _ _ t281 _ _ l0 false _ ?side1 ?side2 ?side3 ?side4 A32.out).mono ?_); (case side1 => repeat (first | exact (Kd.S_reads' HO284.out).2.2 | (with_reducible refine Kd.C_alloc ?_ _) | (with_reducible refine Kd.C_drewN ?_ _) | (with_reducible refine Kd.C_drew ?_))); (case side2 => exact (Kd.S_reads' HO284.out).2.1); (case side3 => repeat (first | exact (Kd.C_below HR0.out HB.out) | (with_reducible refine Kd.C_alloc ?_ _) | (with_reducible refine Kd.C_drewN ?_ _) | (with_reducible refine Kd.C_drew ?_))); (case side4 => exact HC0.out); rintro e w' ⟨rfl, ⟨nd, rfl⟩⟩))
                  go_meet
                  case rel => exact ⟨_, (true), (by first | rfl | (simp; done) | (simp [*]; done)), H', ⟨by first | omega | exact Nat.le_refl _⟩, ⟨by (with_reducible repeat (first | apply Kd.R_alloc | apply Kd.R_drewN | apply Kd.R_drew)); exact Kd.R_mono HO288.out (fun _ hk => hk.2)⟩, ⟨by (with_reducible repeat (first | apply Kd.R_alloc | apply Kd.R_drewN | apply Kd.R_drew)); exact Kd.R_mono HO292.out (fun _ hk => hk.2)⟩, ⟨by (with_reducible repeat (first | refine blk_drewN ?_ _ | refine blk_drew ?_ | refine blk_alloc ?_ _)); exact BK269.out⟩, ⟨by repeat (first | (with_reducible first | exact HB.out | apply below_alloc | apply pw_below_drewN | apply below_drew1 | refine below_set ?_ GE269.out) | exact HB.out)⟩⟩
              · rw [if_neg c31] at H
                have c31b0 : (t290 == 0) = false := beq_eq_false_iff_ne.mpr c31
                have c31b1 : (t290 != 0) = true := bne_iff_ne.mpr c31
                have H' := Aside0.mk H
                clear H
                go_wp2
                go_meet
                case rel => exact ⟨_, (true), (by first | rfl | (simp; done) | (simp [*]; done)), H', ⟨by first | omega | exact Nat.le_refl _⟩, ⟨by (with_reducible repeat (first | apply Kd.R_alloc | apply Kd.R_drewN | apply Kd.R_drew)); exact Kd.R_mono HO288.out (fun _ hk => hk.2)⟩, ⟨by (with_reducible repeat (first | apply Kd.R_alloc | apply Kd.R_drewN | apply Kd.R_drew)); exact Kd.R_mono HO292.out (fun _ hk => hk.2)⟩, ⟨by (with_reducible repeat (first | refine blk_drewN ?_ _ | refine blk_drew ?_ | refine blk_alloc ?_ _)); exact BK269.out⟩, ⟨by repeat (first | (with_reducible first | exact HB.out | apply below_alloc | apply pw_below_drewN | apply below_drew1 | refine below_set ?_ GE269.out) | exact HB.out)⟩⟩
            · rw [if_neg c30] at H
              have c30b0 : (t286 == 0) = false := beq_eq_false_iff_ne.mpr c30
              have c30b1 : (t286 != 0) = true := bne_iff_ne.mpr c30
              have H' := Aside0.mk H
              clear H
              go_wp2
              go_meet
              case rel => exact ⟨_, (true), (by first | rfl | (simp; done) | (simp [*]; done)), H', ⟨by first | omega | exact Nat.le_refl _⟩, ⟨by (with_reducible repeat (first | apply Kd.R_alloc | apply Kd.R_drewN | apply Kd.R_drew)); exact Kd.R_mono HO288.out (fun _ hk => hk.2)⟩, ⟨by (with_reducible repeat (first | apply Kd.R_alloc | apply Kd.R_drewN | apply Kd.R_drew)); exact Kd.R_mono HO292.out (fun _ hk => hk.2)⟩, ⟨by (with_reducible repeat (first | refine blk_drewN ?_ _ | refine blk_drew ?_ | refine blk_alloc ?_ _)); exact BK269.out⟩, ⟨by repeat (first | (with_reducible first | exact HB.out | apply below_alloc | apply pw_below_drewN | apply below_drew1 | refine below_set ?_ GE269.out) | exact HB.out)⟩⟩
          · rw [if_neg c29] at H
            have c29b0 : (t282 == 0) = false := beq_eq_false_iff_ne.mpr c29
            have c29b1 : (t282 != 0) = true := bne_iff_ne.mpr c29
            (first | rw [c29b0] | (simp only [i64_w, i32_w]; rw [c29b0]) | skip)
            have H' := Aside0.mk H
            clear H
            go_wp2
            go_meet
            case rel => exact ⟨_, (true), (by first | rfl | (simp; done) | (simp [*]; done)), H', ⟨by first | omega | exact Nat.le_refl _⟩, ⟨by (with_reducible repeat (first | apply Kd.R_alloc | apply Kd.R_drewN | apply Kd.R_drew)); exact Kd.R_mono HO288.out (fun _ hk => hk.2)⟩, ⟨by (with_reducible repeat (first | apply Kd.R_alloc | apply Kd.R_drewN | apply Kd.R_drew)); exact Kd.R_mono HO292.out (fun _ hk => hk.2)⟩, ⟨by (with_reducible repeat (first | refine blk_drewN ?_ _ | refine blk_drew ?_ | refine blk_alloc ?_ _)); exact BK269.out⟩, ⟨by repeat (first | (with_reducible first | exact HB.out | apply below_alloc | apply pw_below_drewN | apply below_drew1 | refine below_set ?_ GE269.out) | exact HB.out)⟩⟩
        case rest =>
          clear HC13
          try clear c1
          try clear c2
          try clear p2
          try clear c3
          try clear c4
          try clear c5
          try clear c5b0
          try clear c5b1
          try clear c9
          try clear c9b0
          try clear c9b1
          try clear c14
          try clear c15
          try clear c16
          try clear c29
          try clear c29b0
          try clear c29b1
          try clear c30
          try clear c30b0
          try clear c30b1
          try clear c31
          try clear c31b0
          try clear c31b1
          try clear c33
          try clear c34
          try clear c34b0
          try clear c34b1
          try clear c34b2
          try clear hcz16_0
          try clear hcz16_1
          try clear hcz16_2
          try clear hcz16_3
          try clear hcz21_0
          try clear hcz21_1
          try clear hcz21_2
          try clear hcz21_3
          try clear hfz16_0
          try clear hfz16_1
          try clear hfz16_2
          try clear hfz16_3
          try clear hfz21_0
          try clear hfz21_1
          try clear hfz21_2
          try clear hfz21_3
          obtain ⟨kq, x86_12, rfl, HA, HJ12, HO_9, HO_11, BK269, HB⟩ := hcut
          cases kq with
          | zero => exact absurd HA.out (by simp [kinkeeplaw35_QuotaReturns.j0])
          | succ kj12 =>
            have H := HA.out
            clear HA
            simp only [kinkeeplaw35_QuotaReturns.j0] at H
            by_cases c41 : x86_12 = true
            · subst c41
              have H1 : (some false) = some r := by rw [if_pos rfl] at H; exact H
              clear H
              have H := H1
              clear H1
              obtain rfl := Option.some.inj H
              go_wp2
              go_ret
              exact ⟨by first | rfl | (simp [errW_none, errW_some] <;> rfl) | (simp [*, errW_none, errW_some] <;> rfl), by repeat (first | (with_reducible first | exact HB.out | apply below_alloc | apply pw_below_drewN | apply below_drew1 | refine below_set ?_ GE269.out) | exact HB.out)⟩
            · replace c41 := Bool.eq_false_iff.mpr c41
              subst c41
              have H1 : (kinkeeplaw35_QuotaReturns.l0 kj12 l0 t285 t289 0 a1_0 a1_1 a1_2 a1_3) = some r := by rw [if_neg (show ¬ (false = true) by decide)] at H; exact H
              clear H
              have H := H1
              clear H1
              have H' := Aside0.mk H
              clear H
              go_wp2
              go_loopg [13] kj12 (fun kq v13 w' => ∃ (x13_2 : Int), v13 = .int .i64 x13_2 ∧ Aside0 (kinkeeplaw35_QuotaReturns.l0 kq l0 t285 t289 x13_2 a1_0 a1_1 a1_2 a1_3 = some r) ∧ Aside0 (kq ≤ kj12) ∧ Aside0 (Kd.R (Kd.int .i64) 3 w' w.heap.size (fun k_ => some k_ ≠ (v291 : Value).ownBlock) v287 t285) ∧ Aside0 (Kd.R (Kd.int .i64) 3 w' w.heap.size (fun k_ => some k_ ≠ (v287 : Value).ownBlock) v291 t289) ∧ Aside0 (w'.heap[gb269]? = some (.cells #[.int .i64 a1_0, .int .i64 a1_1, .int .i64 a1_2, .int .i64 a1_3] 24 (0, 0))) ∧ Aside0 (Below w.heap.size w w'))
              case atStart => exact ⟨(0), (by first | rfl | (simp; done) | (simp [*]; done)), H', ⟨Nat.le_refl _⟩, ⟨by (with_reducible repeat (first | apply Kd.R_alloc | apply Kd.R_drewN | apply Kd.R_drew)); exact HO_9.out⟩, ⟨by (with_reducible repeat (first | apply Kd.R_alloc | apply Kd.R_drewN | apply Kd.R_drew)); exact HO_11.out⟩, ⟨by (with_reducible repeat (first | refine blk_drewN ?_ _ | refine blk_drew ?_ | refine blk_alloc ?_ _)); exact BK269.out⟩, ⟨by repeat (first | (with_reducible first | exact HB.out | apply below_alloc | apply pw_below_drewN | apply below_drew1 | refine below_set ?_ GE269.out) | exact HB.out)⟩⟩
              case round =>
                clear H'
                try clear c1
                try clear c2
                try clear p2
                try clear c3
                try clear c4
                try clear c5
                try clear c5b0
                try clear c5b1
                try clear c9
                try clear c9b0
                try clear c9b1
                try clear c14
                try clear c15
                try clear c16
                try clear c29
                try clear c29b0
                try clear c29b1
                try clear c30
                try clear c30b0
                try clear c30b1
                try clear c31
                try clear c31b0
                try clear c31b1
                try clear c33
                try clear c34
                try clear c34b0
                try clear c34b1
                try clear c34b2
                try clear c41
                try clear hcz16_0
                try clear hcz16_1
                try clear hcz16_2
                try clear hcz16_3
                try clear hcz21_0
                try clear hcz21_1
                try clear hcz21_2
                try clear hcz21_3
                try clear hfz16_0
                try clear hfz16_1
                try clear hfz16_2
                try clear hfz16_3
                try clear hfz21_0
                try clear hfz21_1
                try clear hfz21_2
                try clear hfz21_3
                try clear p2
                obtain ⟨x13_2, rfl, HA, HK2, HO_9, HO_11, BK269, HB⟩ := hrel
                cases gk with
                | zero => exact absurd HA.out (by simp [kinkeeplaw35_QuotaReturns.l0])
                | succ k2 =>
                  have H := HA.out
                  clear HA
                  simp only [kinkeeplaw35_QuotaReturns.l0] at H
                  by_cases c42 : x13_2 < (l0.length : Int)
                  · rw [if_pos c42] at H
                    have c42b0 : decide (x13_2 < (l0.length : Int)) = true := decide_eq_true c42
                    clear c42
                    by_cases c43 : 0 ≤ x13_2
                    · rw [if_pos c43] at H
                      have c43b0 : decide (0 ≤ x13_2) = true := decide_eq_true c43
                      clear c43
                      by_cases c44 : x13_2 < (t285.length : Int)
                      · rw [if_pos c44] at H
                        have c44b0 : decide (x13_2 < (t285.length : Int)) = true := decide_eq_true c44
                        clear c44
                        have HC45 := Aside0.mk H
                        clear H
                        obtain ⟨Ao46, co46, eo46⟩ := Kd.R_slice HO_9.out
                        subst eo46
                        have p294 : 0 ≤ (x13_2 : Int) := of_decide_eq_true (by first | (with_reducible assumption) | assumption)
                        have q294 : x13_2 < (t285.length : Int) := of_decide_eq_true (by first | (with_reducible assumption) | assumption)
                        obtain ⟨ad294, e294, hx294_0⟩ := Kd.at_int (Kd.R_reads' HO_9.out).2.2 x13_2 p294 q294
                        cases e294
                        replace p294 := eq_true p294
                        replace q294 := eq_true q294
                        have hcz47_0 : wr.cell? ⟨gb269, 0, none⟩ = some (.int .i64 a1_0) := (blk_cell BK269.out 0).trans rfl
                        have hcz47_1 : wr.cell? ⟨gb269, 1, none⟩ = some (.int .i64 a1_1) := (blk_cell BK269.out 1).trans rfl
                        have hcz47_2 : wr.cell? ⟨gb269, 2, none⟩ = some (.int .i64 a1_2) := (blk_cell BK269.out 2).trans rfl
                        have hcz47_3 : wr.cell? ⟨gb269, 3, none⟩ = some (.int .i64 a1_3) := (blk_cell BK269.out 3).trans rfl
                        have hfz47_0 := blk_frozen BK269.out 0
                        have hfz47_1 := blk_frozen BK269.out 1
                        have hfz47_2 := blk_frozen BK269.out 2
                        have hfz47_3 := blk_frozen BK269.out 3
                        go_upto_if 100 with (fail)
                        go_cut [14] (fun v14 wc => ∃ (kq : Nat) (x14_44 : Int), v14 = .int .i64 x14_44 ∧ Aside0 (kinkeeplaw35_QuotaReturns.j2 kq l0 t285 t289 x13_2 x14_44 a1_0 a1_1 a1_2 a1_3 = some r) ∧ Aside0 (kq ≤ k2) ∧ Aside0 (Kd.R (Kd.int .i64) 3 wc w.heap.size (fun k_ => some k_ ≠ (v291 : Value).ownBlock) (.slice (some ad294) t285.length co46) t285) ∧ Aside0 (Kd.R (Kd.int .i64) 3 wc w.heap.size (fun k_ => some k_ ≠ ((.slice (some ad294) t285.length co46) : Value).ownBlock) v291 t289) ∧ Aside0 (wc.heap[gb269]? = some (.cells #[.int .i64 a1_0, .int .i64 a1_1, .int .i64 a1_2, .int .i64 a1_3] 24 (0, 0))) ∧ Aside0 (Below w.heap.size w wc))
                        case first =>
                          have H := HC45.out
                          clear HC45
                          by_cases c48 : x13_2 = a1_0
                          · rw [if_pos c48] at H
                            have c48b0 : (x13_2 == a1_0) = true := beq_iff_eq.mpr c48
                            have c48b1 : (x13_2 != a1_0) = false := bne_eq_false_iff_eq.mpr c48
                            clear c48
                            (first | rw [c48b0] | (simp only [i64_w, i32_w]; rw [c48b0]) | skip)
                            have H' := Aside0.mk H
                            clear H
                            have hcz49_0 : wr.cell? ⟨gb269, 0, none⟩ = some (.int .i64 a1_0) := (blk_cell BK269.out 0).trans rfl
                            have hcz49_1 : wr.cell? ⟨gb269, 1, none⟩ = some (.int .i64 a1_1) := (blk_cell BK269.out 1).trans rfl
                            have hcz49_2 : wr.cell? ⟨gb269, 2, none⟩ = some (.int .i64 a1_2) := (blk_cell BK269.out 2).trans rfl
                            have hcz49_3 : wr.cell? ⟨gb269, 3, none⟩ = some (.int .i64 a1_3) := (blk_cell BK269.out 3).trans rfl
                            have hfz49_0 := blk_frozen BK269.out 0
                            have hfz49_1 := blk_frozen BK269.out 1
                            have hfz49_2 := blk_frozen BK269.out 2
                            have hfz49_3 := blk_frozen BK269.out 3
                            go_wp2
                            go_meet
                            case rel => exact ⟨_, (wrap64 ((rd t285 x13_2) + a1_3)), (by first | rfl | (simp; done) | (simp [*]; done)), H', ⟨by have := HJ12.out; have := HK2.out; first | omega | exact Nat.le_refl _⟩, ⟨by (with_reducible repeat (first | apply Kd.R_alloc | apply Kd.R_drewN | apply Kd.R_drew)); exact HO_9.out⟩, ⟨by (with_reducible repeat (first | apply Kd.R_alloc | apply Kd.R_drewN | apply Kd.R_drew)); exact HO_11.out⟩, ⟨by (with_reducible repeat (first | refine blk_drewN ?_ _ | refine blk_drew ?_ | refine blk_alloc ?_ _)); exact BK269.out⟩, ⟨by repeat (first | (with_reducible first | exact HB.out | apply below_alloc | apply pw_below_drewN | apply below_drew1 | refine below_set ?_ GE269.out) | exact HB.out)⟩⟩
                          · rw [if_neg c48] at H
                            have c48b0 : (x13_2 == a1_0) = false := beq_eq_false_iff_ne.mpr c48
                            have c48b1 : (x13_2 != a1_0) = true := bne_iff_ne.mpr c48
                            (first | rw [c48b0] | (simp only [i64_w, i32_w]; rw [c48b0]) | skip)
                            have H' := Aside0.mk H
                            clear H
                            go_wp2
                            go_meet
                            case rel => exact ⟨_, (rd t285 x13_2), (by first | rfl | (simp; done) | (simp [*]; done)), H', ⟨by have := HJ12.out; have := HK2.out; first | omega | exact Nat.le_refl _⟩, ⟨by (with_reducible repeat (first | apply Kd.R_alloc | apply Kd.R_drewN | apply Kd.R_drew)); exact HO_9.out⟩, ⟨by (with_reducible repeat (first | apply Kd.R_alloc | apply Kd.R_drewN | apply Kd.R_drew)); exact HO_11.out⟩, ⟨by (with_reducible repeat (first | refine blk_drewN ?_ _ | refine blk_drew ?_ | refine blk_alloc ?_ _)); exact BK269.out⟩, ⟨by repeat (first | (with_reducible first | exact HB.out | apply below_alloc | apply pw_below_drewN | apply below_drew1 | refine below_set ?_ GE269.out) | exact HB.out)⟩⟩
                        case rest =>
                          clear HC45
                          try clear c1
                          try clear c2
                          try clear p2
                          try clear q2
                          try clear hx2
                          try clear c3
                          try clear c4
                          try clear c5
                          try clear c5b0
                          try clear c5b1
                          try clear p6
                          try clear c9
                          try clear c9b0
                          try clear c9b1
                          try clear c14
                          try clear c15
                          try clear c16
                          try clear c29
                          try clear c29b0
                          try clear c29b1
                          try clear p29
                          try clear q29
                          try clear hx29
                          try clear c30
                          try clear c30b0
                          try clear c30b1
                          try clear c31
                          try clear c31b0
                          try clear c31b1
                          try clear c33
                          try clear c34
                          try clear c34b0
                          try clear c34b1
                          try clear c34b2
                          try clear c41
                          try clear c42
                          try clear c42b0
                          try clear c43
                          try clear c43b0
                          try clear c44
                          try clear c44b0
                          try clear c48
                          try clear c48b0
                          try clear c48b1
                          try clear hcz16_0
                          try clear hcz16_1
                          try clear hcz16_2
                          try clear hcz16_3
                          try clear hcz21_0
                          try clear hcz21_1
                          try clear hcz21_2
                          try clear hcz21_3
                          try clear hcz47_0
                          try clear hcz47_1
                          try clear hcz47_2
                          try clear hcz47_3
                          try clear hcz49_0
                          try clear hcz49_1
                          try clear hcz49_2
                          try clear hcz49_3
                          try clear hfz16_0
                          try clear hfz16_1
                          try clear hfz16_2
                          try clear hfz16_3
                          try clear hfz21_0
                          try clear hfz21_1
                          try clear hfz21_2
                          try clear hfz21_3
                          try clear hfz47_0
                          try clear hfz47_1
                          try clear hfz47_2
                          try clear hfz47_3
                          try clear hfz49_0
                          try clear hfz49_1
                          try clear hfz49_2
                          try clear hfz49_3
                          try clear hx294_0
                          try clear p2
                          try clear p294
                          try clear q294
                          obtain ⟨kq, x14_44, rfl, HA, HJ44, HO_9, HO_11, BK269, HB⟩ := hcut
                          cases kq with
                          | zero => exact absurd HA.out (by simp [kinkeeplaw35_QuotaReturns.j2])
                          | succ kj44 =>
                            have H := HA.out
                            clear HA
                            simp only [kinkeeplaw35_QuotaReturns.j2] at H
                            by_cases c50 : x13_2 = a1_1
                            · rw [if_pos c50] at H
                              have c50b0 : (x13_2 == a1_1) = true := beq_iff_eq.mpr c50
                              have c50b1 : (x13_2 != a1_1) = false := bne_eq_false_iff_eq.mpr c50
                              clear c50
                              by_cases c51 : 0 ≤ x13_2
                              · rw [if_pos c51] at H
                                have c51b0 : decide (0 ≤ x13_2) = true := decide_eq_true c51
                                clear c51
                                by_cases c52 : x13_2 < (t289.length : Int)
                                · rw [if_pos c52] at H
                                  have c52b0 : decide (x13_2 < (t289.length : Int)) = true := decide_eq_true c52
                                  clear c52
                                  by_cases c53 : (rd t289 x13_2) = (wrap64 (x14_44 - a1_3))
                                  · rw [if_pos c53] at H
                                    have c53b0 : ((rd t289 x13_2) == (wrap64 (x14_44 - a1_3))) = true := beq_iff_eq.mpr c53
                                    have c53b1 : ((rd t289 x13_2) != (wrap64 (x14_44 - a1_3))) = false := bne_eq_false_iff_eq.mpr c53
                                    clear c53
                                    have H' := Aside0.mk H
                                    clear H
                                    have hcz54_0 : wc.cell? ⟨gb269, 0, none⟩ = some (.int .i64 a1_0) := (blk_cell BK269.out 0).trans rfl
                                    have hcz54_1 : wc.cell? ⟨gb269, 1, none⟩ = some (.int .i64 a1_1) := (blk_cell BK269.out 1).trans rfl
                                    have hcz54_2 : wc.cell? ⟨gb269, 2, none⟩ = some (.int .i64 a1_2) := (blk_cell BK269.out 2).trans rfl
                                    have hcz54_3 : wc.cell? ⟨gb269, 3, none⟩ = some (.int .i64 a1_3) := (blk_cell BK269.out 3).trans rfl
                                    have hfz54_0 := blk_frozen BK269.out 0
                                    have hfz54_1 := blk_frozen BK269.out 1
                                    have hfz54_2 := blk_frozen BK269.out 2
                                    have hfz54_3 := blk_frozen BK269.out 3
                                    obtain ⟨Ao55, co55, eo55⟩ := Kd.R_slice HO_11.out
                                    subst eo55
                                    have p295 : 0 ≤ (x13_2 : Int) := of_decide_eq_true (by first | (with_reducible assumption) | assumption)
                                    have q295 : x13_2 < (t289.length : Int) := of_decide_eq_true (by first | (with_reducible assumption) | assumption)
                                    obtain ⟨ad295, e295, hx295_0⟩ := Kd.at_int (Kd.R_reads' HO_11.out).2.2 x13_2 p295 q295
                                    cases e295
                                    replace p295 := eq_true p295
                                    replace q295 := eq_true q295
                                    go_wp2
                                    go_roundg kj44
                                    case measure => have := HJ12.out; have := HK2.out; have := HJ44.out; omega
                                    case rel => exact ⟨(wrap64 (x13_2 + 1)), (by first | rfl | (simp; done) | (simp [*]; done)), H', ⟨by have := HJ12.out; have := HK2.out; have := HJ44.out; omega⟩, ⟨by (with_reducible repeat (first | apply Kd.R_alloc | apply Kd.R_drewN | apply Kd.R_drew)); exact HO_9.out⟩, ⟨by (with_reducible repeat (first | apply Kd.R_alloc | apply Kd.R_drewN | apply Kd.R_drew)); exact HO_11.out⟩, ⟨by (with_reducible repeat (first | refine blk_drewN ?_ _ | refine blk_drew ?_ | refine blk_alloc ?_ _)); exact BK269.out⟩, ⟨by repeat (first | (with_reducible first | exact HB.out | apply below_alloc | apply pw_below_drewN | apply below_drew1 | refine below_set ?_ GE269.out) | exact HB.out)⟩⟩
                                  · rw [if_neg c53] at H
                                    have c53b0 : ((rd t289 x13_2) == (wrap64 (x14_44 - a1_3))) = false := beq_eq_false_iff_ne.mpr c53
                                    have c53b1 : ((rd t289 x13_2) != (wrap64 (x14_44 - a1_3))) = true := bne_iff_ne.mpr c53
                                    obtain rfl := Option.some.inj H
                                    have hcz56_0 : wc.cell? ⟨gb269, 0, none⟩ = some (.int .i64 a1_0) := (blk_cell BK269.out 0).trans rfl
                                    have hcz56_1 : wc.cell? ⟨gb269, 1, none⟩ = some (.int .i64 a1_1) := (blk_cell BK269.out 1).trans rfl
                                    have hcz56_2 : wc.cell? ⟨gb269, 2, none⟩ = some (.int .i64 a1_2) := (blk_cell BK269.out 2).trans rfl
                                    have hcz56_3 : wc.cell? ⟨gb269, 3, none⟩ = some (.int .i64 a1_3) := (blk_cell BK269.out 3).trans rfl
                                    have hfz56_0 := blk_frozen BK269.out 0
                                    have hfz56_1 := blk_frozen BK269.out 1
                                    have hfz56_2 := blk_frozen BK269.out 2
                                    have hfz56_3 := blk_frozen BK269.out 3
                                    obtain ⟨Ao57, co57, eo57⟩ := Kd.R_slice HO_11.out
                                    subst eo57
                                    have p295 : 0 ≤ (x13_2 : Int) := of_decide_eq_true (by first | (with_reducible assumption) | assumption)
                                    have q295 : x13_2 < (t289.length : Int) := of_decide_eq_true (by first | (with_reducible assumption) | assumption)
                                    obtain ⟨ad295, e295, hx295_0⟩ := Kd.at_int (Kd.R_reads' HO_11.out).2.2 x13_2 p295 q295
                                    cases e295
                                    replace p295 := eq_true p295
                                    replace q295 := eq_true q295
                                    go_wp2
                                    go_ret
                                    exact ⟨by first | rfl | (simp [errW_none, errW_some] <;> rfl) | (simp [*, errW_none, errW_some] <;> rfl), by repeat (first | (with_reducible first | exact HB.out | apply below_alloc | apply pw_below_drewN | apply below_drew1 | refine below_set ?_ GE269.out) | exact HB.out)⟩
                                · rw [if_neg c52] at H
                                  exact absurd H (by simp)
                              · rw [if_neg c51] at H
                                exact absurd H (by simp)
                            · rw [if_neg c50] at H
                              have c50b0 : (x13_2 == a1_1) = false := beq_eq_false_iff_ne.mpr c50
                              have c50b1 : (x13_2 != a1_1) = true := bne_iff_ne.mpr c50
                              by_cases c58 : 0 ≤ x13_2
                              · rw [if_pos c58] at H
                                have c58b0 : decide (0 ≤ x13_2) = true := decide_eq_true c58
                                clear c58
                                by_cases c59 : x13_2 < (t289.length : Int)
                                · rw [if_pos c59] at H
                                  have c59b0 : decide (x13_2 < (t289.length : Int)) = true := decide_eq_true c59
                                  clear c59
                                  by_cases c60 : (rd t289 x13_2) = x14_44
                                  · rw [if_pos c60] at H
                                    have c60b0 : ((rd t289 x13_2) == x14_44) = true := beq_iff_eq.mpr c60
                                    have c60b1 : ((rd t289 x13_2) != x14_44) = false := bne_eq_false_iff_eq.mpr c60
                                    clear c60
                                    have H' := Aside0.mk H
                                    clear H
                                    have hcz61_0 : wc.cell? ⟨gb269, 0, none⟩ = some (.int .i64 a1_0) := (blk_cell BK269.out 0).trans rfl
                                    have hcz61_1 : wc.cell? ⟨gb269, 1, none⟩ = some (.int .i64 a1_1) := (blk_cell BK269.out 1).trans rfl
                                    have hcz61_2 : wc.cell? ⟨gb269, 2, none⟩ = some (.int .i64 a1_2) := (blk_cell BK269.out 2).trans rfl
                                    have hcz61_3 : wc.cell? ⟨gb269, 3, none⟩ = some (.int .i64 a1_3) := (blk_cell BK269.out 3).trans rfl
                                    have hfz61_0 := blk_frozen BK269.out 0
                                    have hfz61_1 := blk_frozen BK269.out 1
                                    have hfz61_2 := blk_frozen BK269.out 2
                                    have hfz61_3 := blk_frozen BK269.out 3
                                    obtain ⟨Ao62, co62, eo62⟩ := Kd.R_slice HO_11.out
                                    subst eo62
                                    have p296 : 0 ≤ (x13_2 : Int) := of_decide_eq_true (by first | (with_reducible assumption) | assumption)
                                    have q296 : x13_2 < (t289.length : Int) := of_decide_eq_true (by first | (with_reducible assumption) | assumption)
                                    obtain ⟨ad296, e296, hx296_0⟩ := Kd.at_int (Kd.R_reads' HO_11.out).2.2 x13_2 p296 q296
                                    cases e296
                                    replace p296 := eq_true p296
                                    replace q296 := eq_true q296
                                    go_wp2
                                    go_roundg kj44
                                    case measure => have := HJ12.out; have := HK2.out; have := HJ44.out; omega
                                    case rel => exact ⟨(wrap64 (x13_2 + 1)), (by first | rfl | (simp; done) | (simp [*]; done)), H', ⟨by have := HJ12.out; have := HK2.out; have := HJ44.out; omega⟩, ⟨by (with_reducible repeat (first | apply Kd.R_alloc | apply Kd.R_drewN | apply Kd.R_drew)); exact HO_9.out⟩, ⟨by (with_reducible repeat (first | apply Kd.R_alloc | apply Kd.R_drewN | apply Kd.R_drew)); exact HO_11.out⟩, ⟨by (with_reducible repeat (first | refine blk_drewN ?_ _ | refine blk_drew ?_ | refine blk_alloc ?_ _)); exact BK269.out⟩, ⟨by repeat (first | (with_reducible first | exact HB.out | apply below_alloc | apply pw_below_drewN | apply below_drew1 | refine below_set ?_ GE269.out) | exact HB.out)⟩⟩
                                  · rw [if_neg c60] at H
                                    have c60b0 : ((rd t289 x13_2) == x14_44) = false := beq_eq_false_iff_ne.mpr c60
                                    have c60b1 : ((rd t289 x13_2) != x14_44) = true := bne_iff_ne.mpr c60
                                    obtain rfl := Option.some.inj H
                                    have hcz63_0 : wc.cell? ⟨gb269, 0, none⟩ = some (.int .i64 a1_0) := (blk_cell BK269.out 0).trans rfl
                                    have hcz63_1 : wc.cell? ⟨gb269, 1, none⟩ = some (.int .i64 a1_1) := (blk_cell BK269.out 1).trans rfl
                                    have hcz63_2 : wc.cell? ⟨gb269, 2, none⟩ = some (.int .i64 a1_2) := (blk_cell BK269.out 2).trans rfl
                                    have hcz63_3 : wc.cell? ⟨gb269, 3, none⟩ = some (.int .i64 a1_3) := (blk_cell BK269.out 3).trans rfl
                                    have hfz63_0 := blk_frozen BK269.out 0
                                    have hfz63_1 := blk_frozen BK269.out 1
                                    have hfz63_2 := blk_frozen BK269.out 2
                                    have hfz63_3 := blk_frozen BK269.out 3
                                    obtain ⟨Ao64, co64, eo64⟩ := Kd.R_slice HO_11.out
                                    subst eo64
                                    have p296 : 0 ≤ (x13_2 : Int) := of_decide_eq_true (by first | (with_reducible assumption) | assumption)
                                    have q296 : x13_2 < (t289.length : Int) := of_decide_eq_true (by first | (with_reducible assumption) | assumption)
                                    obtain ⟨ad296, e296, hx296_0⟩ := Kd.at_int (Kd.R_reads' HO_11.out).2.2 x13_2 p296 q296
                                    cases e296
                                    replace p296 := eq_true p296
                                    replace q296 := eq_true q296
                                    go_wp2
                                    go_ret
                                    exact ⟨by first | rfl | (simp [errW_none, errW_some] <;> rfl) | (simp [*, errW_none, errW_some] <;> rfl), by repeat (first | (with_reducible first | exact HB.out | apply below_alloc | apply pw_below_drewN | apply below_drew1 | refine below_set ?_ GE269.out) | exact HB.out)⟩
                                · rw [if_neg c59] at H
                                  exact absurd H (by simp)
                              · rw [if_neg c58] at H
                                exact absurd H (by simp)
                      · rw [if_neg c44] at H
                        exact absurd H (by simp)
                    · rw [if_neg c43] at H
                      exact absurd H (by simp)
                  · rw [if_neg c42] at H
                    have c42b0 : decide (x13_2 < (l0.length : Int)) = false := decide_eq_false c42
                    clear c42
                    obtain rfl := Option.some.inj H
                    go_wp2
                    go_ret
                    exact ⟨by first | rfl | (simp [errW_none, errW_some] <;> rfl) | (simp [*, errW_none, errW_some] <;> rfl), by repeat (first | (with_reducible first | exact HB.out | apply below_alloc | apply pw_below_drewN | apply below_drew1 | refine below_set ?_ GE269.out) | exact HB.out)⟩
      · rw [if_neg c9] at H
        have c9b0 : (t275 == 0) = false := beq_eq_false_iff_ne.mpr c9
        have c9b1 : (t275 != 0) = true := bne_iff_ne.mpr c9
        obtain rfl := Option.some.inj H
        go_enter Try.func3, Try.ntmps3
        go_wp2_with (first | ((with_reducible refine gate_dst (N := 3) rfl ?_); (try (refine gate_guard (by rfl) ?_; dsimp only)); refine box_event ?hg (N := 3) ?hd (cs := #[.int .i64 a1_0, .int .i64 a1_1, .int .i64 a1_2, .int .i64 a1_3]) (t := 24) ?hr ?_; (case hd => rfl); (case hg => rfl); (case hr => first | (go_simp; done) | (go_simp; rfl)); intro gb269 hg w65 hbox hb; have n0_ := Aside0.mk (below_step (by repeat (first | (with_reducible first | exact HB.out | apply below_alloc | apply pw_below_drewN | apply below_drew1) | exact HB.out)) hb); have n1_ := Aside0.mk (hbox); have n2_ := Aside0.mk ((by rw [hg]; exact (below_size (by repeat (first | (with_reducible first | exact HB.out | apply below_alloc | apply pw_below_drewN | apply below_drew1) | exact HB.out))) : w.heap.size ≤ gb269)); have n3_ := Aside0.mk ((by rw [hg]; exact (below_size (by repeat (first | (with_reducible first | exact HB.out | apply below_alloc | apply pw_below_drewN | apply below_drew1) | exact HB.out))) : w.heap.size ≤ gb269)); clear HB; have HB := n0_; have BK269 := n1_; have GW269 := n2_; have GE269 := n3_; clear n0_ n1_ n2_ n3_; clear hb hbox hg) | ((with_reducible refine gate_callee (f := 14) rfl ?_); refine goesL_ (some 15) rfl rfl Try.func14 (by kernel_rfl) rfl #[] rfl (by (try simp only [List.map_toArray, List.map_cons, List.map_nil]); first | done | rfl | (simp only [List.length_drop, List.length_take]; rfl)) ?_; (with_reducible refine (kinkeeplaw35_awake.calls k  true _ A3.out).mono ?_); rintro e w66 ⟨rfl, hb⟩; refine ⟨_, rfl, ?_⟩; have n0_ := Aside0.mk (blk_below (g := gb269) (o := .cells #[.int .i64 a1_0, .int .i64 a1_1, .int .i64 a1_2, .int .i64 a1_3] 24 (0, 0)) (by (with_reducible repeat (first | refine blk_drewN ?_ _ | refine blk_drew ?_ | refine blk_alloc ?_ _)); exact BK269.out) hb); have n1_ := Aside0.mk (below_step (by repeat (first | (with_reducible first | exact HB.out | apply below_alloc | apply pw_below_drewN | apply below_drew1 | refine below_set ?_ GE269.out) | exact HB.out)) hb); clear BK269; clear HB; have BK269 := n0_; have HB := n1_; clear n0_ n1_; (try clear hb); (try clear hb2); (try clear hk); (try clear hi); have hcz67_0 : w66.cell? ⟨gb269, 0, none⟩ = some (.int .i64 a1_0) := (blk_cell BK269.out 0).trans rfl; have hcz67_1 : w66.cell? ⟨gb269, 1, none⟩ = some (.int .i64 a1_1) := (blk_cell BK269.out 1).trans rfl; have hcz67_2 : w66.cell? ⟨gb269, 2, none⟩ = some (.int .i64 a1_2) := (blk_cell BK269.out 2).trans rfl; have hcz67_3 : w66.cell? ⟨gb269, 3, none⟩ = some (.int .i64 a1_3) := (blk_cell BK269.out 3).trans rfl; have hfz67_0 := blk_frozen BK269.out 0; have hfz67_1 := blk_frozen BK269.out 1; have hfz67_2 := blk_frozen BK269.out 2; have hfz67_3 := blk_frozen BK269.out 3) | ((with_reducible refine gate_dst (N := 23) rfl ?_); (try (refine gate_guard (by rfl) ?_; dsimp only)); refine Kd.R_lit k29 _ 29 ?hg (N := 23) ?hd (xs := ([(⟨a1_0, a1_1, a1_2, a1_3⟩ : S29)] : List (S29))) (inner := [.int .i64 a1_0, .int .i64 a1_1, .int .i64 a1_2, .int .i64 a1_3]) (ok := fun _ => True) (okp := fun _ => True) ?hr ?hp (fun _ hk => hk) trivial (Below.refl _ _) (Nat.le_refl _) (by simp) ?_; (case hd => rfl); (case hg => rfl); (case hr => first | (go_simp; done) | (go_simp; rfl)); (case hp => exact (Reps.c4 (show Kd.M k29 _ _ _ (⟨a1_0, a1_1, a1_2, a1_3⟩ : S29) [.int .i64 a1_0, .int .i64 a1_1, .int .i64 a1_2, .int .i64 a1_3] from (k29_mkM _ _ _ (⟨a1_0, a1_1, a1_2, a1_3⟩ : S29) )) (Reps.none _ _))); intro v272 w68 ho69 hb hg_ hnew_; clear hg_ hnew_; (first | rw [← Ny271.out] at ho69 | (simp only [Int.reduceToNat] at ho69; rw [← Ny271.out] at ho69)); have n0_ := Aside0.mk (Kd.R_lower ho69 (below_size (by repeat (first | (with_reducible first | exact HB.out | apply below_alloc | apply pw_below_drewN | apply below_drew1 | refine below_set ?_ GE269.out) | exact HB.out)))); have n1_ := Aside0.mk (blk_below (g := gb269) (o := .cells #[.int .i64 a1_0, .int .i64 a1_1, .int .i64 a1_2, .int .i64 a1_3] 24 (0, 0)) (by (with_reducible repeat (first | refine blk_drewN ?_ _ | refine blk_drew ?_ | refine blk_alloc ?_ _)); exact BK269.out) hb); have n2_ := Aside0.mk (below_step (by repeat (first | (with_reducible first | exact HB.out | apply below_alloc | apply pw_below_drewN | apply below_drew1 | refine below_set ?_ GE269.out) | exact HB.out)) hb); clear BK269; clear HB; have HO273 := n0_; have BK269 := n1_; have HB := n2_; clear n0_ n1_ n2_; clear hb ho69; obtain ⟨Ao70, co70, eo70⟩ := Kd.R_slice HO273.out; subst eo70) | ((with_reducible refine gate_callee (f := 15) rfl ?_); refine goesL_ (some 24) rfl rfl Try.func15 (by kernel_rfl) rfl #[.slice A0 l0.length c0, .slice Ao70 y271.length co70] rfl (by (try simp only [List.map_toArray, List.map_cons, List.map_nil]); first | done | rfl | (simp only [List.length_drop, List.length_take]; rfl)) ?_; (with_reducible refine (quota_Apply.calls k _ _ l0 _ _ y271 t274 t275 _ ?side1 ?side2 ?side3 ?side4 A8.out).mono ?_); (case side1 => repeat (first | exact (Kd.C_below HR0.out HB.out) | (with_reducible refine Kd.C_alloc ?_ _) | (with_reducible refine Kd.C_drewN ?_ _) | (with_reducible refine Kd.C_drew ?_))); (case side2 => exact HC0.out); (case side3 => repeat (first | exact (Kd.R_reads' HO273.out).2.2 | (with_reducible refine Kd.C_alloc ?_ _) | (with_reducible refine Kd.C_drewN ?_ _) | (with_reducible refine Kd.C_drew ?_))); (case side4 => exact (Kd.R_reads' HO273.out).2.1); rintro e w71 ⟨v276, rfl, ho0, hb⟩; refine ⟨_, rfl, ?_⟩; have n0_ := Aside0.mk (Kd.R_below (by (with_reducible repeat (first | apply Kd.R_alloc | apply Kd.R_drewN | apply Kd.R_drew)); exact HO273.out) hb); have n1_ := Aside0.mk (Kd.S_lower ho0 (below_size (by repeat (first | (with_reducible first | exact HB.out | apply below_alloc | apply pw_below_drewN | apply below_drew1 | refine below_set ?_ GE269.out) | exact HB.out)))); have n2_ := Aside0.mk (blk_below (g := gb269) (o := .cells #[.int .i64 a1_0, .int .i64 a1_1, .int .i64 a1_2, .int .i64 a1_3] 24 (0, 0)) (by (with_reducible repeat (first | refine blk_drewN ?_ _ | refine blk_drew ?_ | refine blk_alloc ?_ _)); exact BK269.out) hb); have n3_ := Aside0.mk (below_step (by repeat (first | (with_reducible first | exact HB.out | apply below_alloc | apply pw_below_drewN | apply below_drew1 | refine below_set ?_ GE269.out) | exact HB.out)) hb); clear HO273; clear BK269; clear HB; have HO273 := n0_; have HO277 := n1_; have BK269 := n2_; have HB := n3_; clear n0_ n1_ n2_ n3_; (try clear hb); (try clear hb2); (try clear hk); (try clear hi); (try clear ho0); obtain ⟨Ao72, co72, eo72⟩ := Kd.S_slice HO277.out; subst eo72))
        go_ret
        exact ⟨by first | rfl | (simp [errW_none, errW_some] <;> rfl) | (simp [*, errW_none, errW_some] <;> rfl), by repeat (first | (with_reducible first | exact HB.out | apply below_alloc | apply pw_below_drewN | apply below_drew1 | refine below_set ?_ GE269.out) | exact HB.out)⟩
  · replace c4 := Bool.eq_false_iff.mpr c4
    subst c4
    have H1 : (some false) = some r := by rw [if_neg (show ¬ (false = true) by decide)] at H; exact H
    clear H
    have H := H1
    clear H1
    obtain rfl := Option.some.inj H
    go_enter Try.func3, Try.ntmps3
    go_wp2_with (first | ((with_reducible refine gate_dst (N := 3) rfl ?_); (try (refine gate_guard (by rfl) ?_; dsimp only)); refine box_event ?hg (N := 3) ?hd (cs := #[.int .i64 a1_0, .int .i64 a1_1, .int .i64 a1_2, .int .i64 a1_3]) (t := 24) ?hr ?_; (case hd => rfl); (case hg => rfl); (case hr => first | (go_simp; done) | (go_simp; rfl)); intro gb269 hg w73 hbox hb; have n0_ := Aside0.mk (below_step (by repeat (first | (with_reducible first | exact HB.out | apply below_alloc | apply pw_below_drewN | apply below_drew1) | exact HB.out)) hb); have n1_ := Aside0.mk (hbox); have n2_ := Aside0.mk ((by rw [hg]; exact (below_size (by repeat (first | (with_reducible first | exact HB.out | apply below_alloc | apply pw_below_drewN | apply below_drew1) | exact HB.out))) : w.heap.size ≤ gb269)); have n3_ := Aside0.mk ((by rw [hg]; exact (below_size (by repeat (first | (with_reducible first | exact HB.out | apply below_alloc | apply pw_below_drewN | apply below_drew1) | exact HB.out))) : w.heap.size ≤ gb269)); clear HB; have HB := n0_; have BK269 := n1_; have GW269 := n2_; have GE269 := n3_; clear n0_ n1_ n2_ n3_; clear hb hbox hg) | ((with_reducible refine gate_callee (f := 14) rfl ?_); refine goesL_ (some 15) rfl rfl Try.func14 (by kernel_rfl) rfl #[] rfl (by (try simp only [List.map_toArray, List.map_cons, List.map_nil]); first | done | rfl | (simp only [List.length_drop, List.length_take]; rfl)) ?_; (with_reducible refine (kinkeeplaw35_awake.calls k  false _ A3.out).mono ?_); rintro e w74 ⟨rfl, hb⟩; refine ⟨_, rfl, ?_⟩; have n0_ := Aside0.mk (blk_below (g := gb269) (o := .cells #[.int .i64 a1_0, .int .i64 a1_1, .int .i64 a1_2, .int .i64 a1_3] 24 (0, 0)) (by (with_reducible repeat (first | refine blk_drewN ?_ _ | refine blk_drew ?_ | refine blk_alloc ?_ _)); exact BK269.out) hb); have n1_ := Aside0.mk (below_step (by repeat (first | (with_reducible first | exact HB.out | apply below_alloc | apply pw_below_drewN | apply below_drew1 | refine below_set ?_ GE269.out) | exact HB.out)) hb); clear BK269; clear HB; have BK269 := n0_; have HB := n1_; clear n0_ n1_; (try clear hb); (try clear hb2); (try clear hk); (try clear hi)))
    go_ret
    exact ⟨by first | rfl | (simp [errW_none, errW_some] <;> rfl) | (simp [*, errW_none, errW_some] <;> rfl), by repeat (first | (with_reducible first | exact HB.out | apply below_alloc | apply pw_below_drewN | apply below_drew1 | refine below_set ?_ GE269.out) | exact HB.out)⟩

end Go.Proofs.Ytdljbmgknhbceaa.Q
