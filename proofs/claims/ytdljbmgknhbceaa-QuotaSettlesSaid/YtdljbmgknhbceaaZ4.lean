-- Merged by wip/tools/shake.py out of: Qx50, Qx64, Mz, Na, Nb
import Derived.Test.YtdljbmgknhbceaaZ1
import Derived.Test.YtdljbmgknhbceaaZ2
import Derived.Test.YtdljbmgknhbceaaZ3
set_option linter.unusedVariables false
set_option linter.unusedSimpArgs false
set_option linter.unusedSectionVars false
section
namespace Go.Proofs.Ytdljbmgknhbceaa.Q
open Go.RowKit Go.Proofs.YtdljbmgknhbceaaW.PrintWords Go.Proofs.YtdljbmgknhbceaaW.PrintLast Go.Proofs.YtdljbmgknhbceaaW.PrintMore
attribute [local go_sem] max2_int min2_int max_two min_two max_three min_three max_four min_four
def kinkeepref35_relief_moved.f (k : Nat) (l0_0 : List Int) (l0_1 : List (List Int)) (l0_2 : List Int) (a1 : Int) (a2 : Int) (a3 : Int) (a4 : Int) : Option (List Int × (List (List Int)) × List Int) := (some (([] : List Int) : List Int)).bind fun y519 => (if y519.length + l0_0.length < 17592186044416 then ((some (y519 ++ l0_0 : List Int)).bind fun y522 => ((kinkeepref35_Clone.f k l0_1).bind fun t525 => ((some (([] : List Int) : List Int)).bind fun y528 => (if y528.length + l0_2.length < 17592186044416 then ((some (y528 ++ l0_2 : List Int)).bind fun y531 => (if 0 ≤ a1 then (if a1 < (y522.length : Int) then (if a1 < (t525.length : Int) then (if 0 ≤ a2 then (if a2 < ((rd_L1 t525 a1).length : Int) then (if 0 ≤ a3 then (if a3 < (y531.length : Int) then (some ((y522.set (a1 : Int).toNat (wrap64 ((rd y522 a1) - a4))), (t525.set (a1 : Int).toNat ((rd_L1 t525 a1).set (a2 : Int).toNat (wrap64 ((rd (rd_L1 t525 a1) a2) - a4)))), (y531.set (a3 : Int).toNat (wrap64 ((rd y531 a3) - a4))))) else (none)) else (none)) else (none)) else (none)) else (none)) else (none)) else (none))) else (none))))) else (none))
theorem kinkeepref35_relief_moved.mono : ∀ a0 a1 a2 a3 a4 a5 a6 k, LeO (kinkeepref35_relief_moved.f k a0 a1 a2 a3 a4 a5 a6) (kinkeepref35_relief_moved.f (k + 1) a0 a1 a2 a3 a4 a5 a6) := by
 intro a0 a1 a2 a3 a4 a5 a6 k
 unfold kinkeepref35_relief_moved.f
 repeat' first
  | (with_reducible exact kinkeepref35_Clone.mono _ _)
  | (with_reducible exact LeO.refl _)
  | (with_reducible exact LeO.none _)
  | (with_reducible refine LeO.ite ?_ ?_)
  | (with_reducible refine LeO.bind ?_ (fun _ => ?_))
  | exact kinkeepref35_Clone.mono _ _
  | exact LeO.none _
  | refine LeO.ite ?_ ?_
  | refine LeO.bind ?_ (fun _ => ?_)
def kinkeepref35_relief_moved.T1 : Bool × List (List Nat × List Nat) := (true, [([], []), ([], []), ([1], [1]), ([0, 2], [0, 2]), ([], []), ([4], [4]), ([5, 3], [5]), ([], []), ([], []), ([8], [8]), ([7, 9, 6], [7, 9]), ([3, 6, 10], [3, 6, 10]), ([], []), ([12, 11, 10, 0, 1, 2, 3, 4, 5, 6, 7, 8, 9, 10, 11, 12], [11, 12])])
def kinkeepref35_relief_moved.B1 : List Nat := [0, 0, 2, 7, 0, 16, 63, 0, 0, 256, 1023, 2047, 0, 8191]
theorem kinkeepref35_relief_moved.tab1 : rtab .any (opsOf Try.f57 1) = kinkeepref35_relief_moved.T1 := by kernel_rfl
theorem kinkeepref35_relief_moved.bits1 : waitsOk kinkeepref35_relief_moved.T1.2 kinkeepref35_relief_moved.B1 = true := by kernel_rfl
set_option maxHeartbeats 8000000 in
set_option maxRecDepth 100000 in
theorem kinkeepref35_relief_moved.calls (k : Nat) (A0_0 : Option Addr) (c0_0 : Nat) (l0_0 : List Int) (A0_1 : Option Addr) (c0_1 : Nat) (l0_1 : List (List Int)) (A0_2 : Option Addr) (c0_2 : Nat) (l0_2 : List Int) (a1 : Int) (a2 : Int) (a3 : Int) (a4 : Int) (r1 : List Int) (r2 : List (List Int)) (r3 : List Int) (w : World) (hr0_0 : Kd.C (Kd.int .i64) w A0_0 l0_0.length l0_0) (hc0_0 : l0_0.length ≤ c0_0) (hr0_1 : Kd.C (Kd.slice 3 (Kd.int .i64)) w A0_1 l0_1.length l0_1) (hc0_1 : l0_1.length ≤ c0_1) (hr0_2 : Kd.C (Kd.int .i64) w A0_2 l0_2.length l0_2) (hc0_2 : l0_2.length ≤ c0_2) (h : kinkeepref35_relief_moved.f k l0_0 l0_1 l0_2 a1 a2 a3 a4 = some (r1, r2, r3)) :
 Calls Try.prog 57 #[.agg #[.slice A0_0 l0_0.length c0_0, .slice A0_1 l0_1.length c0_1, .slice A0_2 l0_2.length c0_2], .int .i64 a1, .int .i64 a2, .int .i64 a3, .int .i64 a4] w fun e w' => ∃ v0_ v1_ v2_ : Value, e = .returned (.agg #[v0_, v1_, v2_]) ∧ Kd.R (Kd.int .i64) 3 w' w.heap.size (fun k_ => some k_ ≠ (v2_ : Value).ownBlock) v0_ r1 ∧ Kd.S (Kd.slice 3 (Kd.int .i64)) 31 w' w.heap.size (fun k_ => some k_ ≠ (v0_ : Value).ownBlock ∧ some k_ ≠ (v2_ : Value).ownBlock) v1_ r2 ∧ Kd.R (Kd.int .i64) 3 w' w.heap.size (fun k_ => some k_ ≠ (v0_ : Value).ownBlock) v2_ r3 ∧ Below w.heap.size w w' := by
 have hu75 := Try.underlying75
 have HR0_0 := sA hr0_0
 have HC0_0 := sA hc0_0
 clear hr0_0 hc0_0
 have HR0_1 := sA hr0_1
 have HC0_1 := sA hc0_1
 clear hr0_1 hc0_1
 have HR0_2 := sA hr0_2
 have HC0_2 := sA hc0_2
 clear hr0_2 hc0_2
 have HB := sA (Below.refl w.heap.size w)
 have H : ((some (([] : List Int) : List Int)).bind fun y519 => (if y519.length + l0_0.length < 17592186044416 then ((some (y519 ++ l0_0 : List Int)).bind fun y522 => ((kinkeepref35_Clone.f k l0_1).bind fun t525 => ((some (([] : List Int) : List Int)).bind fun y528 => (if y528.length + l0_2.length < 17592186044416 then ((some (y528 ++ l0_2 : List Int)).bind fun y531 => (if 0 ≤ a1 then (if a1 < (y522.length : Int) then (if a1 < (t525.length : Int) then (if 0 ≤ a2 then (if a2 < ((rd_L1 t525 a1).length : Int) then (if 0 ≤ a3 then (if a3 < (y531.length : Int) then (some ((y522.set (a1 : Int).toNat (wrap64 ((rd y522 a1) - a4))), (t525.set (a1 : Int).toNat ((rd_L1 t525 a1).set (a2 : Int).toNat (wrap64 ((rd (rd_L1 t525 a1) a2) - a4)))), (y531.set (a3 : Int).toNat (wrap64 ((rd y531 a3) - a4))))) else (none)) else (none)) else (none)) else (none)) else (none)) else (none)) else (none))) else (none))))) else (none))) = some (r1, r2, r3) := h
 clear h
 obtain ⟨y519, hy519⟩ : ∃ y_ : List Int, y_ = (([] : List Int)) := ⟨_, rfl⟩
 replace H : (if y519.length + l0_0.length < 17592186044416 then ((some (y519 ++ l0_0 : List Int)).bind fun y522 => ((kinkeepref35_Clone.f k l0_1).bind fun t525 => ((some (([] : List Int) : List Int)).bind fun y528 => (if y528.length + l0_2.length < 17592186044416 then ((some (y528 ++ l0_2 : List Int)).bind fun y531 => (if 0 ≤ a1 then (if a1 < (y522.length : Int) then (if a1 < (t525.length : Int) then (if 0 ≤ a2 then (if a2 < ((rd_L1 t525 a1).length : Int) then (if 0 ≤ a3 then (if a3 < (y531.length : Int) then (some ((y522.set (a1 : Int).toNat (wrap64 ((rd y522 a1) - a4))), (t525.set (a1 : Int).toNat ((rd_L1 t525 a1).set (a2 : Int).toNat (wrap64 ((rd (rd_L1 t525 a1) a2) - a4)))), (y531.set (a3 : Int).toNat (wrap64 ((rd y531 a3) - a4))))) else (none)) else (none)) else (none)) else (none)) else (none)) else (none)) else (none))) else (none))))) else (none)) = some (r1, r2, r3) := by first | (rw [hy519]; with_reducible exact H) | (have H2_ := (Option.bind_some _ _).symm.trans H; rw [hy519]; with_reducible exact H2_) | (have H2_ := (Option.bind_some _ _).symm.trans H; with_reducible exact H2_) | with_reducible exact H | (rw [hy519]; exact H) | exact H
 have Ny519 := sA hy519
 clear hy519
 by_cases c6 : y519.length + l0_0.length < 17592186044416
 ·
  rw [if_pos c6] at H
  have LMc6 := sA c6
  clear c6
  obtain ⟨y522, hy522⟩ : ∃ y_ : List Int, y_ = (y519 ++ l0_0) := ⟨_, rfl⟩
  replace H : ((kinkeepref35_Clone.f k l0_1).bind fun t525 => ((some (([] : List Int) : List Int)).bind fun y528 => (if y528.length + l0_2.length < 17592186044416 then ((some (y528 ++ l0_2 : List Int)).bind fun y531 => (if 0 ≤ a1 then (if a1 < (y522.length : Int) then (if a1 < (t525.length : Int) then (if 0 ≤ a2 then (if a2 < ((rd_L1 t525 a1).length : Int) then (if 0 ≤ a3 then (if a3 < (y531.length : Int) then (some ((y522.set (a1 : Int).toNat (wrap64 ((rd y522 a1) - a4))), (t525.set (a1 : Int).toNat ((rd_L1 t525 a1).set (a2 : Int).toNat (wrap64 ((rd (rd_L1 t525 a1) a2) - a4)))), (y531.set (a3 : Int).toNat (wrap64 ((rd y531 a3) - a4))))) else (none)) else (none)) else (none)) else (none)) else (none)) else (none)) else (none))) else (none)))) = some (r1, r2, r3) := by first | (rw [hy522]; with_reducible exact H) | (have H2_ := (Option.bind_some _ _).symm.trans H; rw [hy522]; with_reducible exact H2_) | (have H2_ := (Option.bind_some _ _).symm.trans H; with_reducible exact H2_) | with_reducible exact H | (rw [hy522]; exact H) | exact H
  have Ny522 := sA hy522
  clear hy522
  replace H := Option.bind_eq_some_iff.mp H
  obtain ⟨t525, A70, H⟩ := H
  replace H : ((some (([] : List Int) : List Int)).bind fun y528 => (if y528.length + l0_2.length < 17592186044416 then ((some (y528 ++ l0_2 : List Int)).bind fun y531 => (if 0 ≤ a1 then (if a1 < (y522.length : Int) then (if a1 < (t525.length : Int) then (if 0 ≤ a2 then (if a2 < ((rd_L1 t525 a1).length : Int) then (if 0 ≤ a3 then (if a3 < (y531.length : Int) then (some ((y522.set (a1 : Int).toNat (wrap64 ((rd y522 a1) - a4))), (t525.set (a1 : Int).toNat ((rd_L1 t525 a1).set (a2 : Int).toNat (wrap64 ((rd (rd_L1 t525 a1) a2) - a4)))), (y531.set (a3 : Int).toNat (wrap64 ((rd y531 a3) - a4))))) else (none)) else (none)) else (none)) else (none)) else (none)) else (none)) else (none))) else (none))) = some (r1, r2, r3) := H
  have A7 := sA A70
  clear A70
  obtain ⟨y528, hy528⟩ : ∃ y_ : List Int, y_ = (([] : List Int)) := ⟨_, rfl⟩
  replace H : (if y528.length + l0_2.length < 17592186044416 then ((some (y528 ++ l0_2 : List Int)).bind fun y531 => (if 0 ≤ a1 then (if a1 < (y522.length : Int) then (if a1 < (t525.length : Int) then (if 0 ≤ a2 then (if a2 < ((rd_L1 t525 a1).length : Int) then (if 0 ≤ a3 then (if a3 < (y531.length : Int) then (some ((y522.set (a1 : Int).toNat (wrap64 ((rd y522 a1) - a4))), (t525.set (a1 : Int).toNat ((rd_L1 t525 a1).set (a2 : Int).toNat (wrap64 ((rd (rd_L1 t525 a1) a2) - a4)))), (y531.set (a3 : Int).toNat (wrap64 ((rd y531 a3) - a4))))) else (none)) else (none)) else (none)) else (none)) else (none)) else (none)) else (none))) else (none)) = some (r1, r2, r3) := by first | (rw [hy528]; with_reducible exact H) | (have H2_ := (Option.bind_some _ _).symm.trans H; rw [hy528]; with_reducible exact H2_) | (have H2_ := (Option.bind_some _ _).symm.trans H; with_reducible exact H2_) | with_reducible exact H | (rw [hy528]; exact H) | exact H
  have Ny528 := sA hy528
  clear hy528
  by_cases c8 : y528.length + l0_2.length < 17592186044416
  ·
   rw [if_pos c8] at H
   have LMc8 := sA c8
   clear c8
   obtain ⟨y531, hy531⟩ : ∃ y_ : List Int, y_ = (y528 ++ l0_2) := ⟨_, rfl⟩
   replace H : (if 0 ≤ a1 then (if a1 < (y522.length : Int) then (if a1 < (t525.length : Int) then (if 0 ≤ a2 then (if a2 < ((rd_L1 t525 a1).length : Int) then (if 0 ≤ a3 then (if a3 < (y531.length : Int) then (some ((y522.set (a1 : Int).toNat (wrap64 ((rd y522 a1) - a4))), (t525.set (a1 : Int).toNat ((rd_L1 t525 a1).set (a2 : Int).toNat (wrap64 ((rd (rd_L1 t525 a1) a2) - a4)))), (y531.set (a3 : Int).toNat (wrap64 ((rd y531 a3) - a4))))) else (none)) else (none)) else (none)) else (none)) else (none)) else (none)) else (none)) = some (r1, r2, r3) := by first | (rw [hy531]; with_reducible exact H) | (have H2_ := (Option.bind_some _ _).symm.trans H; rw [hy531]; with_reducible exact H2_) | (have H2_ := (Option.bind_some _ _).symm.trans H; with_reducible exact H2_) | with_reducible exact H | (rw [hy531]; exact H) | exact H
   have Ny531 := sA hy531
   clear hy531
   by_cases c9 : 0 ≤ a1
   ·
    rw [if_pos c9] at H
    have c9b0 : decide (0 ≤ a1) = true := decide_eq_true c9
    clear c9
    by_cases c10 : a1 < (y522.length : Int)
    ·
     rw [if_pos c10] at H
     have c10b0 : decide (a1 < (y522.length : Int)) = true := decide_eq_true c10
     clear c10
     obtain ⟨y536, hy536⟩ : ∃ y_ : List Int, y_ = (y522.set (a1 : Int).toNat (wrap64 ((rd y522 a1) - a4))) := ⟨_, rfl⟩
     replace H : (if a1 < (t525.length : Int) then (if 0 ≤ a2 then (if a2 < ((rd_L1 t525 a1).length : Int) then (if 0 ≤ a3 then (if a3 < (y531.length : Int) then (some (y536, (t525.set (a1 : Int).toNat ((rd_L1 t525 a1).set (a2 : Int).toNat (wrap64 ((rd (rd_L1 t525 a1) a2) - a4)))), (y531.set (a3 : Int).toNat (wrap64 ((rd y531 a3) - a4))))) else (none)) else (none)) else (none)) else (none)) else (none)) = some (r1, r2, r3) := by first | (rw [hy536]; with_reducible exact H) | (have H2_ := (Option.bind_some _ _).symm.trans H; rw [hy536]; with_reducible exact H2_) | (have H2_ := (Option.bind_some _ _).symm.trans H; with_reducible exact H2_) | with_reducible exact H | (rw [hy536]; exact H) | exact H
     have Ny536 := sA hy536
     clear hy536
     by_cases c12 : a1 < (t525.length : Int)
     ·
      rw [if_pos c12] at H
      have c12b0 : decide (a1 < (t525.length : Int)) = true := decide_eq_true c12
      clear c12
      by_cases c13 : 0 ≤ a2
      ·
       rw [if_pos c13] at H
       have c13b0 : decide (0 ≤ a2) = true := decide_eq_true c13
       clear c13
       by_cases c14 : a2 < ((rd_L1 t525 a1).length : Int)
       ·
        rw [if_pos c14] at H
        have c14b0 : decide (a2 < ((rd_L1 t525 a1).length : Int)) = true := decide_eq_true c14
        clear c14
        obtain ⟨y539, hy539⟩ : ∃ y_ : List Int, y_ = ((rd_L1 t525 a1).set (a2 : Int).toNat (wrap64 ((rd (rd_L1 t525 a1) a2) - a4))) := ⟨_, rfl⟩
        replace H : (if 0 ≤ a3 then (if a3 < (y531.length : Int) then (some (y536, (t525.set (a1 : Int).toNat y539), (y531.set (a3 : Int).toNat (wrap64 ((rd y531 a3) - a4))))) else (none)) else (none)) = some (r1, r2, r3) := by first | (rw [hy539]; with_reducible exact H) | (have H2_ := (Option.bind_some _ _).symm.trans H; rw [hy539]; with_reducible exact H2_) | (have H2_ := (Option.bind_some _ _).symm.trans H; with_reducible exact H2_) | with_reducible exact H | (rw [hy539]; exact H) | exact H
        have Ny539 := sA hy539
        clear hy539
        obtain ⟨y541, hy541⟩ : ∃ y_ : List (List Int), y_ = (t525.set (a1 : Int).toNat y539) := ⟨_, rfl⟩
        replace H : (if 0 ≤ a3 then (if a3 < (y531.length : Int) then (some (y536, y541, (y531.set (a3 : Int).toNat (wrap64 ((rd y531 a3) - a4))))) else (none)) else (none)) = some (r1, r2, r3) := by first | (rw [hy541]; with_reducible exact H) | (have H2_ := (Option.bind_some _ _).symm.trans H; rw [hy541]; with_reducible exact H2_) | (have H2_ := (Option.bind_some _ _).symm.trans H; with_reducible exact H2_) | with_reducible exact H | (rw [hy541]; exact H) | exact H
        have Ny541 := sA hy541
        clear hy541
        by_cases c16 : 0 ≤ a3
        ·
         rw [if_pos c16] at H
         have c16b0 : decide (0 ≤ a3) = true := decide_eq_true c16
         clear c16
         by_cases c17 : a3 < (y531.length : Int)
         ·
          rw [if_pos c17] at H
          have c17b0 : decide (a3 < (y531.length : Int)) = true := decide_eq_true c17
          clear c17
          obtain ⟨y543, hy543⟩ : ∃ y_ : List Int, y_ = (y531.set (a3 : Int).toNat (wrap64 ((rd y531 a3) - a4))) := ⟨_, rfl⟩
          replace H : (some (y536, y541, y543)) = some (r1, r2, r3) := by first | (rw [hy543]; with_reducible exact H) | (have H2_ := (Option.bind_some _ _).symm.trans H; rw [hy543]; with_reducible exact H2_) | (have H2_ := (Option.bind_some _ _).symm.trans H; with_reducible exact H2_) | with_reducible exact H | (rw [hy543]; exact H) | exact H
          have Ny543 := sA hy543
          clear hy543
          simp only [Option.some.injEq, Prod.mk.injEq] at H
          obtain ⟨rfl, rfl, rfl⟩ := H
          go_enter Try.func57, Try.ntmps57
          try go_wp2_with (first | ((with_reducible refine gate_dst (N := 5) rfl ?_); refine box_event ?hg (N := 5) ?hd (cs := #[.slice A0_0 l0_0.length c0_0, .slice A0_1 l0_1.length c0_1, .slice A0_2 l0_2.length c0_2]) (t := 75) ?hr ?_; (case hd => rfl); (case hg => rfl); (case hr => first | (go_simp; done) | (go_simp; rfl)); intro gb517 hg w19 hbox hb; have n0_ := sA (below_step (upC HB.out) hb); have n1_ := sA (hbox); have n2_ := sA ((by rw [hg]; exact (below_size (upC HB.out)) : w.heap.size ≤ gb517)); have n3_ := sA ((by rw [hg]; exact (below_size (upC HB.out)) : w.heap.size ≤ gb517)); clear HB; have HB := n0_; have BK517 := n1_; have GW517 := n2_; have GE517 := n3_; clear n0_ n1_ n2_ n3_; clear hb hbox hg) | ((with_reducible refine gate_dst (N := 10) rfl ?_); refine box_event ?hg (N := 10) ?hd (cs := #[.slice none 0 0, .slice none 0 0, .slice none 0 0]) (t := 75) ?hr ?_; (case hd => rfl); (case hg => rfl); (case hr => first | (go_simp; done) | (go_simp; rfl)); intro gb518 hg w20 hbox hb; have n0_ := sA (blk_below (g := gb517) (upK BK517.out) hb); have n1_ := sA (below_step (upB1 HB.out GE517.out) hb); have n2_ := sA (hbox); have n3_ := sA ((by rw [hg]; exact (below_size (upB1 HB.out GE517.out)) : w.heap.size ≤ gb518)); have n4_ := sA ((by rw [hg]; exact (below_size (upB1 HB.out GE517.out)) : w.heap.size ≤ gb518)); have n5_ := sA ((by rw [hg]; exact Nat.ne_of_lt (blk_lt (g := gb517) (upK BK517.out)) : gb517 ≠ gb518)); have n6_ := sA ((by rw [hg]; exact Nat.ne_of_gt (blk_lt (g := gb517) (upK BK517.out)) : gb518 ≠ gb517)); clear BK517; clear HB; have BK517 := n0_; have HB := n1_; have BK518 := n2_; have GW518 := n3_; have GE518 := n4_; have NB517_518 := n5_; have NB518_517 := n6_; clear n0_ n1_ n2_ n3_ n4_ n5_ n6_; clear hb hbox hg))
          have n0_ := sA (blk_drew BK517.out)
          have n1_ := sA (blk_drew BK518.out)
          have n2_ := sA (below_drew1 HB.out)
          clear BK517
          clear BK518
          clear HB
          have BK517 := n0_
          have BK518 := n1_
          have HB := n2_
          clear n0_ n1_ n2_
          refine start_ (n := 14) (S := fun w' => w'.cell? ⟨gb517, 0, none⟩ = some (.slice A0_0 l0_0.length c0_0) ∧ w'.cell? ⟨gb517, 1, none⟩ = some (.slice A0_1 l0_1.length c0_1) ∧ w'.cell? ⟨gb517, 2, none⟩ = some (.slice A0_2 l0_2.length c0_2)) (ds := []) #[false, false, false, false, false, false, false, false, false, false, false, false, false, false] (by kernel_rfl) rfl rfl ⟨(blk_cell BK517.out 0).trans rfl, (blk_cell BK517.out 1).trans rfl, (blk_cell BK517.out 2).trans rfl⟩ (fun hHeld => ?_); refine with_tabW kinkeepref35_relief_moved.tab1 kinkeepref35_relief_moved.bits1 (fun HT_ HW_ => ?_)
          generalize w20.drew = w21 at BK517 BK518 HB hHeld ⊢
          refine pure_ (i := 1) (N := some 13) (v := ?_) (a' := ?_) #[false, true, false, false, false, false, false, false, false, false, false, false, false, false] rfl rfl (any_of HT_.out (by kernel_rfl)) (fun _ _ _ h => h) (Or.inl ⟨by rfl, ?_⟩) ?_ ?_
          rotate_left
          ·
           intro w'
           go_simp
           with_reducible rfl
          rotate_left
          ·
           simp only [Act.put, upL, i64_w, i32_w]
           rfl
          refine pure_ (i := 4) (N := some 16) (v := ?_) (a' := ?_) #[false, true, false, false, true, false, false, false, false, false, false, false, false, false] rfl rfl (any_of HT_.out (by kernel_rfl)) (fun _ _ _ h => h) (Or.inl ⟨by rfl, ?_⟩) ?_ ?_
          rotate_left
          ·
           intro w'
           go_simp
           with_reducible rfl
          rotate_left
          ·
           simp only [Act.put, upL, i64_w, i32_w]
           rfl
          refine pure_ (i := 8) (N := some 20) (v := ?_) (a' := ?_) #[false, true, false, false, true, false, false, false, true, false, false, false, false, false] rfl rfl (any_of HT_.out (by kernel_rfl)) (fun _ _ _ h => h) (Or.inl ⟨by rfl, ?_⟩) ?_ ?_
          rotate_left
          ·
           intro w'
           go_simp
           with_reducible rfl
          rotate_left
          ·
           simp only [Act.put, upL, i64_w, i32_w]
           rfl
          refine take_ (i := 2) (N := some 14) (v := ?_) (a' := ?_) #[false, true, true, false, true, false, false, false, true, false, false, false, false, false] rfl rfl (take_ofW HT_.out HW_.out (by kernel_rfl)) (fun _ _ _ h => h) (Or.inl ⟨by rfl, ?_⟩) hHeld ?_ ?_
          rotate_left
          ·
           rintro w' ⟨s0, s1, s2⟩
           go_simp
           with_reducible rfl
          rotate_left
          ·
           simp only [Act.put, upL, i64_w, i32_w]
           rfl
          refine take_ (i := 5) (N := some 17) (v := ?_) (a' := ?_) #[false, true, true, false, true, true, false, false, true, false, false, false, false, false] rfl rfl (take_ofW HT_.out HW_.out (by kernel_rfl)) (fun _ _ _ h => h) (Or.inl ⟨by rfl, ?_⟩) hHeld ?_ ?_
          rotate_left
          ·
           rintro w' ⟨s0, s1, s2⟩
           go_simp
           with_reducible rfl
          rotate_left
          ·
           simp only [Act.put, upL, i64_w, i32_w]
           rfl
          refine take_ (i := 9) (N := some 21) (v := ?_) (a' := ?_) #[false, true, true, false, true, true, false, false, true, true, false, false, false, false] rfl rfl (take_ofW HT_.out HW_.out (by kernel_rfl)) (fun _ _ _ h => h) (Or.inl ⟨by rfl, ?_⟩) hHeld ?_ ?_
          rotate_left
          ·
           rintro w' ⟨s0, s1, s2⟩
           go_simp
           with_reducible rfl
          rotate_left
          ·
           simp only [Act.put, upL, i64_w, i32_w]
           rfl
          refine join_ (σ := Value × Value × Value × Value × Value × Nat) 1 #[true, true, true, true, true, true, true, true, true, true, true, true, true, false] (fun s_ => [(12, s_.1), (15, s_.2.1), (18, s_.2.2.1), (19, s_.2.2.2.1), (22, s_.2.2.2.2.1), (11, .pointer (some ⟨s_.2.2.2.2.2, 0, none⟩)), (23, .agg #[s_.2.1, s_.2.2.1, s_.2.2.2.2.1])]) (fun s_ w' => (w'.cell? ⟨gb517, 0, none⟩ = some (.slice A0_0 l0_0.length c0_0) ∧ w'.cell? ⟨gb517, 1, none⟩ = some (.slice A0_1 l0_1.length c0_1) ∧ w'.cell? ⟨gb517, 2, none⟩ = some (.slice A0_2 l0_2.length c0_2)) ∧ (Kd.R (Kd.int .i64) 3 w' w.heap.size (fun k_ => some k_ ≠ (s_.2.2.2.2.1 : Value).ownBlock) s_.2.1 y522) ∧ (Kd.S (Kd.slice 3 (Kd.int .i64)) 31 w' w.heap.size (fun k_ => some k_ ≠ (s_.2.1 : Value).ownBlock ∧ some k_ ≠ (s_.2.2.2.2.1 : Value).ownBlock) s_.2.2.1 t525) ∧ (Kd.R (Kd.int .i64) 3 w' w.heap.size (fun k_ => some k_ ≠ (s_.2.1 : Value).ownBlock) s_.2.2.2.2.1 y531) ∧ (w'.heap[gb517]? = some (.cells #[.slice A0_0 l0_0.length c0_0, .slice A0_1 l0_1.length c0_1, .slice A0_2 l0_2.length c0_2] 75 (0, 0))) ∧ (w'.heap[gb518]? = some (.cells #[.slice none 0 0, .slice none 0 0, .slice none 0 0] 75 (0, 0))) ∧ (w'.heap[s_.2.2.2.2.2]? = some (.cells #[.slice none 0 0, .slice none 0 0, .slice none 0 0] 75 (0, 0))) ∧ (w.heap.size ≤ s_.2.2.2.2.2) ∧ (w.heap.size ≤ s_.2.2.2.2.2) ∧ (gb517 ≠ s_.2.2.2.2.2) ∧ (s_.2.2.2.2.2 ≠ gb517) ∧ (gb518 ≠ s_.2.2.2.2.2) ∧ (s_.2.2.2.2.2 ≠ gb518) ∧ (Below w.heap.size w w')) ?_ ?_
          rotate_left
          ·
           intro hJ0_3_6_7_10_12
           refine join_ (σ := Value × Value × Value × Value × Value) 2 #[true, true, true, true, true, true, true, true, true, true, true, true, false, false] (fun s_ => [(12, s_.1), (15, s_.2.1), (18, s_.2.2.1), (19, s_.2.2.2.1), (22, s_.2.2.2.2), (23, .agg #[s_.2.1, s_.2.2.1, s_.2.2.2.2])]) (fun s_ w' => (w'.cell? ⟨gb517, 0, none⟩ = some (.slice A0_0 l0_0.length c0_0) ∧ w'.cell? ⟨gb517, 1, none⟩ = some (.slice A0_1 l0_1.length c0_1) ∧ w'.cell? ⟨gb517, 2, none⟩ = some (.slice A0_2 l0_2.length c0_2)) ∧ (Kd.R (Kd.int .i64) 3 w' w.heap.size (fun k_ => some k_ ≠ (s_.2.2.2.2 : Value).ownBlock) s_.2.1 y522) ∧ (Kd.S (Kd.slice 3 (Kd.int .i64)) 31 w' w.heap.size (fun k_ => some k_ ≠ (s_.2.1 : Value).ownBlock ∧ some k_ ≠ (s_.2.2.2.2 : Value).ownBlock) s_.2.2.1 t525) ∧ (Kd.R (Kd.int .i64) 3 w' w.heap.size (fun k_ => some k_ ≠ (s_.2.1 : Value).ownBlock) s_.2.2.2.2 y531) ∧ (w'.heap[gb517]? = some (.cells #[.slice A0_0 l0_0.length c0_0, .slice A0_1 l0_1.length c0_1, .slice A0_2 l0_2.length c0_2] 75 (0, 0))) ∧ (w'.heap[gb518]? = some (.cells #[.slice none 0 0, .slice none 0 0, .slice none 0 0] 75 (0, 0))) ∧ (Below w.heap.size w w')) ?_ ?_
           rotate_left
           ·
            intro hJ0_3_6_7_10
            refine join_ (σ := Value × Value × Value × Value × Nat) 3 #[true, true, true, true, true, true, true, true, true, true, false, false, true, false] (fun s_ => [(12, s_.1), (15, s_.2.1), (18, s_.2.2.1), (19, s_.2.2.2.1), (11, .pointer (some ⟨s_.2.2.2.2, 0, none⟩))]) (fun s_ w' => (w'.cell? ⟨gb517, 0, none⟩ = some (.slice A0_0 l0_0.length c0_0) ∧ w'.cell? ⟨gb517, 1, none⟩ = some (.slice A0_1 l0_1.length c0_1) ∧ w'.cell? ⟨gb517, 2, none⟩ = some (.slice A0_2 l0_2.length c0_2)) ∧ (Kd.R (Kd.int .i64) 3 w' w.heap.size (fun k_ => some k_ ≠ (s_.2.2.2.1 : Value).ownBlock) s_.2.1 y522) ∧ (Kd.S (Kd.slice 3 (Kd.int .i64)) 31 w' w.heap.size (fun k_ => some k_ ≠ (s_.2.1 : Value).ownBlock ∧ some k_ ≠ (s_.2.2.2.1 : Value).ownBlock) s_.2.2.1 t525) ∧ (Kd.R (Kd.int .i64) 3 w' w.heap.size (fun k_ => some k_ ≠ (s_.2.1 : Value).ownBlock) s_.2.2.2.1 y528) ∧ (w'.heap[gb517]? = some (.cells #[.slice A0_0 l0_0.length c0_0, .slice A0_1 l0_1.length c0_1, .slice A0_2 l0_2.length c0_2] 75 (0, 0))) ∧ (w'.heap[gb518]? = some (.cells #[.slice none 0 0, .slice none 0 0, .slice none 0 0] 75 (0, 0))) ∧ (w'.heap[s_.2.2.2.2]? = some (.cells #[.slice none 0 0, .slice none 0 0, .slice none 0 0] 75 (0, 0))) ∧ (w.heap.size ≤ s_.2.2.2.2) ∧ (w.heap.size ≤ s_.2.2.2.2) ∧ (gb517 ≠ s_.2.2.2.2) ∧ (s_.2.2.2.2 ≠ gb517) ∧ (gb518 ≠ s_.2.2.2.2) ∧ (s_.2.2.2.2 ≠ gb518) ∧ (Below w.heap.size w w')) ?_ ?_
            rotate_left
            ·
             intro hJ0_3_6_7_12
             refine join_ (σ := Value × Value × Value × Value) 4 #[true, true, true, true, true, true, true, true, true, true, false, false, false, false] (fun s_ => [(12, s_.1), (15, s_.2.1), (18, s_.2.2.1), (19, s_.2.2.2)]) (fun s_ w' => (w'.cell? ⟨gb517, 0, none⟩ = some (.slice A0_0 l0_0.length c0_0) ∧ w'.cell? ⟨gb517, 1, none⟩ = some (.slice A0_1 l0_1.length c0_1) ∧ w'.cell? ⟨gb517, 2, none⟩ = some (.slice A0_2 l0_2.length c0_2)) ∧ (Kd.R (Kd.int .i64) 3 w' w.heap.size (fun k_ => some k_ ≠ (s_.2.2.2 : Value).ownBlock) s_.2.1 y522) ∧ (Kd.S (Kd.slice 3 (Kd.int .i64)) 31 w' w.heap.size (fun k_ => some k_ ≠ (s_.2.1 : Value).ownBlock ∧ some k_ ≠ (s_.2.2.2 : Value).ownBlock) s_.2.2.1 t525) ∧ (Kd.R (Kd.int .i64) 3 w' w.heap.size (fun k_ => some k_ ≠ (s_.2.1 : Value).ownBlock) s_.2.2.2 y528) ∧ (w'.heap[gb517]? = some (.cells #[.slice A0_0 l0_0.length c0_0, .slice A0_1 l0_1.length c0_1, .slice A0_2 l0_2.length c0_2] 75 (0, 0))) ∧ (w'.heap[gb518]? = some (.cells #[.slice none 0 0, .slice none 0 0, .slice none 0 0] 75 (0, 0))) ∧ (Below w.heap.size w w')) ?_ ?_
             rotate_left
             ·
              intro hJ0_3_6_7
              refine join_ (σ := Value × Value × Value × Nat) 4 #[true, true, true, true, true, true, true, false, true, true, false, false, true, false] (fun s_ => [(12, s_.1), (15, s_.2.1), (18, s_.2.2.1), (11, .pointer (some ⟨s_.2.2.2, 0, none⟩))]) (fun s_ w' => (w'.cell? ⟨gb517, 0, none⟩ = some (.slice A0_0 l0_0.length c0_0) ∧ w'.cell? ⟨gb517, 1, none⟩ = some (.slice A0_1 l0_1.length c0_1) ∧ w'.cell? ⟨gb517, 2, none⟩ = some (.slice A0_2 l0_2.length c0_2)) ∧ (Kd.R (Kd.int .i64) 3 w' w.heap.size (fun _ => True) s_.2.1 y522) ∧ (Kd.S (Kd.slice 3 (Kd.int .i64)) 31 w' w.heap.size (fun k_ => some k_ ≠ (s_.2.1 : Value).ownBlock) s_.2.2.1 t525) ∧ (w'.heap[gb517]? = some (.cells #[.slice A0_0 l0_0.length c0_0, .slice A0_1 l0_1.length c0_1, .slice A0_2 l0_2.length c0_2] 75 (0, 0))) ∧ (w'.heap[gb518]? = some (.cells #[.slice none 0 0, .slice none 0 0, .slice none 0 0] 75 (0, 0))) ∧ (w'.heap[s_.2.2.2]? = some (.cells #[.slice none 0 0, .slice none 0 0, .slice none 0 0] 75 (0, 0))) ∧ (w.heap.size ≤ s_.2.2.2) ∧ (w.heap.size ≤ s_.2.2.2) ∧ (gb517 ≠ s_.2.2.2) ∧ (s_.2.2.2 ≠ gb517) ∧ (gb518 ≠ s_.2.2.2) ∧ (s_.2.2.2 ≠ gb518) ∧ (Below w.heap.size w w')) ?_ ?_
              rotate_left
              ·
               intro hJ0_3_6_12
               refine join_ (σ := Value × Value × Value × Nat) 4 #[true, true, true, true, true, true, false, true, true, true, false, false, true, false] (fun s_ => [(12, s_.1), (15, s_.2.1), (19, s_.2.2.1), (11, .pointer (some ⟨s_.2.2.2, 0, none⟩))]) (fun s_ w' => (w'.cell? ⟨gb517, 0, none⟩ = some (.slice A0_0 l0_0.length c0_0) ∧ w'.cell? ⟨gb517, 1, none⟩ = some (.slice A0_1 l0_1.length c0_1) ∧ w'.cell? ⟨gb517, 2, none⟩ = some (.slice A0_2 l0_2.length c0_2)) ∧ (Kd.R (Kd.int .i64) 3 w' w.heap.size (fun k_ => some k_ ≠ (s_.2.2.1 : Value).ownBlock) s_.2.1 y522) ∧ (Kd.R (Kd.int .i64) 3 w' w.heap.size (fun k_ => some k_ ≠ (s_.2.1 : Value).ownBlock) s_.2.2.1 y528) ∧ (w'.heap[gb517]? = some (.cells #[.slice A0_0 l0_0.length c0_0, .slice A0_1 l0_1.length c0_1, .slice A0_2 l0_2.length c0_2] 75 (0, 0))) ∧ (w'.heap[gb518]? = some (.cells #[.slice none 0 0, .slice none 0 0, .slice none 0 0] 75 (0, 0))) ∧ (w'.heap[s_.2.2.2]? = some (.cells #[.slice none 0 0, .slice none 0 0, .slice none 0 0] 75 (0, 0))) ∧ (w.heap.size ≤ s_.2.2.2) ∧ (w.heap.size ≤ s_.2.2.2) ∧ (gb517 ≠ s_.2.2.2) ∧ (s_.2.2.2 ≠ gb517) ∧ (gb518 ≠ s_.2.2.2) ∧ (s_.2.2.2 ≠ gb518) ∧ (Below w.heap.size w w')) ?_ ?_
               rotate_left
               ·
                intro hJ0_3_7_12
                refine join_ (σ := Value × Value × Value) 5 #[true, true, true, true, true, true, true, false, true, true, false, false, false, false] (fun s_ => [(12, s_.1), (15, s_.2.1), (18, s_.2.2)]) (fun s_ w' => (w'.cell? ⟨gb517, 0, none⟩ = some (.slice A0_0 l0_0.length c0_0) ∧ w'.cell? ⟨gb517, 1, none⟩ = some (.slice A0_1 l0_1.length c0_1) ∧ w'.cell? ⟨gb517, 2, none⟩ = some (.slice A0_2 l0_2.length c0_2)) ∧ (Kd.R (Kd.int .i64) 3 w' w.heap.size (fun _ => True) s_.2.1 y522) ∧ (Kd.S (Kd.slice 3 (Kd.int .i64)) 31 w' w.heap.size (fun k_ => some k_ ≠ (s_.2.1 : Value).ownBlock) s_.2.2 t525) ∧ (w'.heap[gb517]? = some (.cells #[.slice A0_0 l0_0.length c0_0, .slice A0_1 l0_1.length c0_1, .slice A0_2 l0_2.length c0_2] 75 (0, 0))) ∧ (w'.heap[gb518]? = some (.cells #[.slice none 0 0, .slice none 0 0, .slice none 0 0] 75 (0, 0))) ∧ (Below w.heap.size w w')) ?_ ?_
                rotate_left
                ·
                 intro hJ0_3_6
                 refine join_ (σ := Value × Value × Value) 5 #[true, true, true, true, true, true, false, true, true, true, false, false, false, false] (fun s_ => [(12, s_.1), (15, s_.2.1), (19, s_.2.2)]) (fun s_ w' => (w'.cell? ⟨gb517, 0, none⟩ = some (.slice A0_0 l0_0.length c0_0) ∧ w'.cell? ⟨gb517, 1, none⟩ = some (.slice A0_1 l0_1.length c0_1) ∧ w'.cell? ⟨gb517, 2, none⟩ = some (.slice A0_2 l0_2.length c0_2)) ∧ (Kd.R (Kd.int .i64) 3 w' w.heap.size (fun k_ => some k_ ≠ (s_.2.2 : Value).ownBlock) s_.2.1 y522) ∧ (Kd.R (Kd.int .i64) 3 w' w.heap.size (fun k_ => some k_ ≠ (s_.2.1 : Value).ownBlock) s_.2.2 y528) ∧ (w'.heap[gb517]? = some (.cells #[.slice A0_0 l0_0.length c0_0, .slice A0_1 l0_1.length c0_1, .slice A0_2 l0_2.length c0_2] 75 (0, 0))) ∧ (w'.heap[gb518]? = some (.cells #[.slice none 0 0, .slice none 0 0, .slice none 0 0] 75 (0, 0))) ∧ (Below w.heap.size w w')) ?_ ?_
                 rotate_left
                 ·
                  intro hJ0_3_7
                  refine join_ (σ := Value × Value × Nat) 5 #[true, true, true, true, true, true, false, false, true, true, false, false, true, false] (fun s_ => [(12, s_.1), (15, s_.2.1), (11, .pointer (some ⟨s_.2.2, 0, none⟩))]) (fun s_ w' => (w'.cell? ⟨gb517, 0, none⟩ = some (.slice A0_0 l0_0.length c0_0) ∧ w'.cell? ⟨gb517, 1, none⟩ = some (.slice A0_1 l0_1.length c0_1) ∧ w'.cell? ⟨gb517, 2, none⟩ = some (.slice A0_2 l0_2.length c0_2)) ∧ (Kd.R (Kd.int .i64) 3 w' w.heap.size (fun _ => True) s_.2.1 y522) ∧ (w'.heap[gb517]? = some (.cells #[.slice A0_0 l0_0.length c0_0, .slice A0_1 l0_1.length c0_1, .slice A0_2 l0_2.length c0_2] 75 (0, 0))) ∧ (w'.heap[gb518]? = some (.cells #[.slice none 0 0, .slice none 0 0, .slice none 0 0] 75 (0, 0))) ∧ (w'.heap[s_.2.2]? = some (.cells #[.slice none 0 0, .slice none 0 0, .slice none 0 0] 75 (0, 0))) ∧ (w.heap.size ≤ s_.2.2) ∧ (w.heap.size ≤ s_.2.2) ∧ (gb517 ≠ s_.2.2) ∧ (s_.2.2 ≠ gb517) ∧ (gb518 ≠ s_.2.2) ∧ (s_.2.2 ≠ gb518) ∧ (Below w.heap.size w w')) ?_ ?_
                  rotate_left
                  ·
                   intro hJ0_3_12
                   refine join_ (σ := Value × Value × Nat) 5 #[true, true, true, false, true, true, false, true, true, true, false, false, true, false] (fun s_ => [(12, s_.1), (19, s_.2.1), (11, .pointer (some ⟨s_.2.2, 0, none⟩))]) (fun s_ w' => (w'.cell? ⟨gb517, 0, none⟩ = some (.slice A0_0 l0_0.length c0_0) ∧ w'.cell? ⟨gb517, 1, none⟩ = some (.slice A0_1 l0_1.length c0_1) ∧ w'.cell? ⟨gb517, 2, none⟩ = some (.slice A0_2 l0_2.length c0_2)) ∧ (Kd.R (Kd.int .i64) 3 w' w.heap.size (fun k_ => some k_ ≠ (s_.2.1 : Value).ownBlock) s_.1 y519) ∧ (Kd.R (Kd.int .i64) 3 w' w.heap.size (fun k_ => some k_ ≠ (s_.1 : Value).ownBlock) s_.2.1 y528) ∧ (w'.heap[gb517]? = some (.cells #[.slice A0_0 l0_0.length c0_0, .slice A0_1 l0_1.length c0_1, .slice A0_2 l0_2.length c0_2] 75 (0, 0))) ∧ (w'.heap[gb518]? = some (.cells #[.slice none 0 0, .slice none 0 0, .slice none 0 0] 75 (0, 0))) ∧ (w'.heap[s_.2.2]? = some (.cells #[.slice none 0 0, .slice none 0 0, .slice none 0 0] 75 (0, 0))) ∧ (w.heap.size ≤ s_.2.2) ∧ (w.heap.size ≤ s_.2.2) ∧ (gb517 ≠ s_.2.2) ∧ (s_.2.2 ≠ gb517) ∧ (gb518 ≠ s_.2.2) ∧ (s_.2.2 ≠ gb518) ∧ (Below w.heap.size w w')) ?_ ?_
                   rotate_left
                   ·
                    intro hJ0_7_12
                    refine join_ (σ := Value × Value) 6 #[true, true, true, true, true, true, false, false, true, true, false, false, false, false] (fun s_ => [(12, s_.1), (15, s_.2)]) (fun s_ w' => (w'.cell? ⟨gb517, 0, none⟩ = some (.slice A0_0 l0_0.length c0_0) ∧ w'.cell? ⟨gb517, 1, none⟩ = some (.slice A0_1 l0_1.length c0_1) ∧ w'.cell? ⟨gb517, 2, none⟩ = some (.slice A0_2 l0_2.length c0_2)) ∧ (Kd.R (Kd.int .i64) 3 w' w.heap.size (fun _ => True) s_.2 y522) ∧ (w'.heap[gb517]? = some (.cells #[.slice A0_0 l0_0.length c0_0, .slice A0_1 l0_1.length c0_1, .slice A0_2 l0_2.length c0_2] 75 (0, 0))) ∧ (w'.heap[gb518]? = some (.cells #[.slice none 0 0, .slice none 0 0, .slice none 0 0] 75 (0, 0))) ∧ (Below w.heap.size w w')) ?_ ?_
                    rotate_left
                    ·
                     intro hJ0_3
                     refine join_ (σ := Value × Value) 6 #[true, true, true, false, true, true, false, true, true, true, false, false, false, false] (fun s_ => [(12, s_.1), (19, s_.2)]) (fun s_ w' => (w'.cell? ⟨gb517, 0, none⟩ = some (.slice A0_0 l0_0.length c0_0) ∧ w'.cell? ⟨gb517, 1, none⟩ = some (.slice A0_1 l0_1.length c0_1) ∧ w'.cell? ⟨gb517, 2, none⟩ = some (.slice A0_2 l0_2.length c0_2)) ∧ (Kd.R (Kd.int .i64) 3 w' w.heap.size (fun k_ => some k_ ≠ (s_.2 : Value).ownBlock) s_.1 y519) ∧ (Kd.R (Kd.int .i64) 3 w' w.heap.size (fun k_ => some k_ ≠ (s_.1 : Value).ownBlock) s_.2 y528) ∧ (w'.heap[gb517]? = some (.cells #[.slice A0_0 l0_0.length c0_0, .slice A0_1 l0_1.length c0_1, .slice A0_2 l0_2.length c0_2] 75 (0, 0))) ∧ (w'.heap[gb518]? = some (.cells #[.slice none 0 0, .slice none 0 0, .slice none 0 0] 75 (0, 0))) ∧ (Below w.heap.size w w')) ?_ ?_
                     rotate_left
                     ·
                      intro hJ0_7
                      refine join_ (σ := Value × Nat) 6 #[true, true, true, false, true, true, false, false, true, true, false, false, true, false] (fun s_ => [(12, s_.1), (11, .pointer (some ⟨s_.2, 0, none⟩))]) (fun s_ w' => (w'.cell? ⟨gb517, 0, none⟩ = some (.slice A0_0 l0_0.length c0_0) ∧ w'.cell? ⟨gb517, 1, none⟩ = some (.slice A0_1 l0_1.length c0_1) ∧ w'.cell? ⟨gb517, 2, none⟩ = some (.slice A0_2 l0_2.length c0_2)) ∧ (Kd.R (Kd.int .i64) 3 w' w.heap.size (fun _ => True) s_.1 y519) ∧ (w'.heap[gb517]? = some (.cells #[.slice A0_0 l0_0.length c0_0, .slice A0_1 l0_1.length c0_1, .slice A0_2 l0_2.length c0_2] 75 (0, 0))) ∧ (w'.heap[gb518]? = some (.cells #[.slice none 0 0, .slice none 0 0, .slice none 0 0] 75 (0, 0))) ∧ (w'.heap[s_.2]? = some (.cells #[.slice none 0 0, .slice none 0 0, .slice none 0 0] 75 (0, 0))) ∧ (w.heap.size ≤ s_.2) ∧ (w.heap.size ≤ s_.2) ∧ (gb517 ≠ s_.2) ∧ (s_.2 ≠ gb517) ∧ (gb518 ≠ s_.2) ∧ (s_.2 ≠ gb518) ∧ (Below w.heap.size w w')) ?_ ?_
                      rotate_left
                      ·
                       intro hJ0_12
                       refine join_ (σ := Value × Nat) 6 #[false, true, true, false, true, true, false, true, true, true, false, false, true, false] (fun s_ => [(19, s_.1), (11, .pointer (some ⟨s_.2, 0, none⟩))]) (fun s_ w' => (w'.cell? ⟨gb517, 0, none⟩ = some (.slice A0_0 l0_0.length c0_0) ∧ w'.cell? ⟨gb517, 1, none⟩ = some (.slice A0_1 l0_1.length c0_1) ∧ w'.cell? ⟨gb517, 2, none⟩ = some (.slice A0_2 l0_2.length c0_2)) ∧ (Kd.R (Kd.int .i64) 3 w' w.heap.size (fun _ => True) s_.1 y528) ∧ (w'.heap[gb517]? = some (.cells #[.slice A0_0 l0_0.length c0_0, .slice A0_1 l0_1.length c0_1, .slice A0_2 l0_2.length c0_2] 75 (0, 0))) ∧ (w'.heap[gb518]? = some (.cells #[.slice none 0 0, .slice none 0 0, .slice none 0 0] 75 (0, 0))) ∧ (w'.heap[s_.2]? = some (.cells #[.slice none 0 0, .slice none 0 0, .slice none 0 0] 75 (0, 0))) ∧ (w.heap.size ≤ s_.2) ∧ (w.heap.size ≤ s_.2) ∧ (gb517 ≠ s_.2) ∧ (s_.2 ≠ gb517) ∧ (gb518 ≠ s_.2) ∧ (s_.2 ≠ gb518) ∧ (Below w.heap.size w w')) ?_ ?_
                       rotate_left
                       ·
                        intro hJ7_12
                        refine join_ (σ := Value) 7 #[true, true, true, false, true, true, false, false, true, true, false, false, false, false] (fun s_ => [(12, s_)]) (fun s_ w' => (w'.cell? ⟨gb517, 0, none⟩ = some (.slice A0_0 l0_0.length c0_0) ∧ w'.cell? ⟨gb517, 1, none⟩ = some (.slice A0_1 l0_1.length c0_1) ∧ w'.cell? ⟨gb517, 2, none⟩ = some (.slice A0_2 l0_2.length c0_2)) ∧ (Kd.R (Kd.int .i64) 3 w' w.heap.size (fun _ => True) s_ y519) ∧ (w'.heap[gb517]? = some (.cells #[.slice A0_0 l0_0.length c0_0, .slice A0_1 l0_1.length c0_1, .slice A0_2 l0_2.length c0_2] 75 (0, 0))) ∧ (w'.heap[gb518]? = some (.cells #[.slice none 0 0, .slice none 0 0, .slice none 0 0] 75 (0, 0))) ∧ (Below w.heap.size w w')) ?_ ?_
                        rotate_left
                        ·
                         intro hJ0
                         refine join_ (σ := Value) 7 #[false, true, true, false, true, true, false, true, true, true, false, false, false, false] (fun s_ => [(19, s_)]) (fun s_ w' => (w'.cell? ⟨gb517, 0, none⟩ = some (.slice A0_0 l0_0.length c0_0) ∧ w'.cell? ⟨gb517, 1, none⟩ = some (.slice A0_1 l0_1.length c0_1) ∧ w'.cell? ⟨gb517, 2, none⟩ = some (.slice A0_2 l0_2.length c0_2)) ∧ (Kd.R (Kd.int .i64) 3 w' w.heap.size (fun _ => True) s_ y528) ∧ (w'.heap[gb517]? = some (.cells #[.slice A0_0 l0_0.length c0_0, .slice A0_1 l0_1.length c0_1, .slice A0_2 l0_2.length c0_2] 75 (0, 0))) ∧ (w'.heap[gb518]? = some (.cells #[.slice none 0 0, .slice none 0 0, .slice none 0 0] 75 (0, 0))) ∧ (Below w.heap.size w w')) ?_ ?_
                         rotate_left
                         ·
                          intro hJ7
                          refine join_ (σ := Nat) 7 #[false, true, true, false, true, true, false, false, true, true, false, false, true, false] (fun s_ => [(11, .pointer (some ⟨s_, 0, none⟩))]) (fun s_ w' => (w'.cell? ⟨gb517, 0, none⟩ = some (.slice A0_0 l0_0.length c0_0) ∧ w'.cell? ⟨gb517, 1, none⟩ = some (.slice A0_1 l0_1.length c0_1) ∧ w'.cell? ⟨gb517, 2, none⟩ = some (.slice A0_2 l0_2.length c0_2)) ∧ (w'.heap[gb517]? = some (.cells #[.slice A0_0 l0_0.length c0_0, .slice A0_1 l0_1.length c0_1, .slice A0_2 l0_2.length c0_2] 75 (0, 0))) ∧ (w'.heap[gb518]? = some (.cells #[.slice none 0 0, .slice none 0 0, .slice none 0 0] 75 (0, 0))) ∧ (w'.heap[s_]? = some (.cells #[.slice none 0 0, .slice none 0 0, .slice none 0 0] 75 (0, 0))) ∧ (w.heap.size ≤ s_) ∧ (w.heap.size ≤ s_) ∧ (gb517 ≠ s_) ∧ (s_ ≠ gb517) ∧ (gb518 ≠ s_) ∧ (s_ ≠ gb518) ∧ (Below w.heap.size w w')) ?_ ?_
                          rotate_left
                          ·
                           intro hJ12
                           refine three_ (i := 0) (j := 7) (k := 12) (Ni := some 12) (Nj := some 19) (Nk := some 11) #[true, true, true, false, true, true, false, false, true, true, false, false, false, false] #[false, true, true, false, true, true, false, true, true, true, false, false, false, false] #[false, true, true, false, true, true, false, false, true, true, false, false, true, false] rfl rfl rfl rfl rfl rfl (three_of HT_.out (by kernel_rfl)) (by decide) (by decide) (by decide) (fun K hK => ?_) (fun K hK => ?_) (fun K hK => ?_)
                           ·
                            skip
                            refine Kd.R_lit_step (Kd.int .i64) _ 3 ?hg (N := 12) ?hd (xs := ([] : List Int)) (inner := []) (ok := fun _ => True) (okp := fun _ => True) ?hr ?hp (fun _ hk => hk) trivial (Below.refl _ _) (Nat.le_refl _) (by simp) ?_; (case hd => rfl); (case hg => rfl); (case hr => first | (go_simp; done) | (go_simp; rfl)); (case hp => exact (Reps.none _ _))
                            intro v520 w22 ho23 hb hg_ hnew_
                            clear hg_ hnew_
                            (first | rw [← Ny519.out] at ho23 | (simp only [Int.reduceToNat] at ho23; rw [← Ny519.out] at ho23))
                            have n0_ := sA (Kd.R_lower ho23 (below_size (upB2 HB.out GE517.out GE518.out)))
                            have n1_ := sA (blk_below (g := gb517) (upK BK517.out) hb)
                            have n2_ := sA (blk_below (g := gb518) (upK BK518.out) hb)
                            have n3_ := sA (below_step (upB2 HB.out GE517.out GE518.out) hb)
                            clear BK517
                            clear BK518
                            clear HB
                            have HO521 := n0_
                            have BK517 := n1_
                            have BK518 := n2_
                            have HB := n3_
                            clear n0_ n1_ n2_ n3_
                            clear hb ho23
                            refine hK.out _ _ ⟨(blk_cell BK517.out 0).trans rfl, (blk_cell BK517.out 1).trans rfl, (blk_cell BK517.out 2).trans rfl⟩ (fun hHeld => ?_)
                            clear hK K
                            refine norm_ (a' := ?_) ?_ ?_
                            rotate_left
                            ·
                             show Act.put _ (some 12) _ = _
                             simp only [Act.put, upL, i64_w, i32_w]
                             rfl
                            exact norm_ upZ (hJ0 (v520) _ ⟨hHeld, (upR HO521.out), (upK BK517.out), (upK BK518.out), (upB2 HB.out GE517.out GE518.out)⟩)
                           ·
                            skip
                            refine Kd.R_lit_step (Kd.int .i64) _ 3 ?hg (N := 19) ?hd (xs := ([] : List Int)) (inner := []) (ok := fun _ => True) (okp := fun _ => True) ?hr ?hp (fun _ hk => hk) trivial (Below.refl _ _) (Nat.le_refl _) (by simp) ?_; (case hd => rfl); (case hg => rfl); (case hr => first | (go_simp; done) | (go_simp; rfl)); (case hp => exact (Reps.none _ _))
                            intro v529 w22 ho23 hb hg_ hnew_
                            clear hg_ hnew_
                            (first | rw [← Ny528.out] at ho23 | (simp only [Int.reduceToNat] at ho23; rw [← Ny528.out] at ho23))
                            have n0_ := sA (Kd.R_lower ho23 (below_size (upB2 HB.out GE517.out GE518.out)))
                            have n1_ := sA (blk_below (g := gb517) (upK BK517.out) hb)
                            have n2_ := sA (blk_below (g := gb518) (upK BK518.out) hb)
                            have n3_ := sA (below_step (upB2 HB.out GE517.out GE518.out) hb)
                            clear BK517
                            clear BK518
                            clear HB
                            have HO530 := n0_
                            have BK517 := n1_
                            have BK518 := n2_
                            have HB := n3_
                            clear n0_ n1_ n2_ n3_
                            clear hb ho23
                            refine hK.out _ _ ⟨(blk_cell BK517.out 0).trans rfl, (blk_cell BK517.out 1).trans rfl, (blk_cell BK517.out 2).trans rfl⟩ (fun hHeld => ?_)
                            clear hK K
                            refine norm_ (a' := ?_) ?_ ?_
                            rotate_left
                            ·
                             show Act.put _ (some 19) _ = _
                             simp only [Act.put, upL, i64_w, i32_w]
                             rfl
                            exact norm_ upZ (hJ7 (v529) _ ⟨hHeld, (upR HO530.out), (upK BK517.out), (upK BK518.out), (upB2 HB.out GE517.out GE518.out)⟩)
                           ·
                            skip
                            refine box_step ?hg (N := 11) ?hd (cs := #[.slice none 0 0, .slice none 0 0, .slice none 0 0]) (t := 75) ?hr ?_; (case hd => rfl); (case hg => rfl); (case hr => first | (go_simp; done) | (go_simp; rfl))
                            intro gb534 hg w22 hbox hb
                            have n0_ := sA (blk_below (g := gb517) (upK BK517.out) hb)
                            have n1_ := sA (blk_below (g := gb518) (upK BK518.out) hb)
                            have n2_ := sA (below_step (upB2 HB.out GE517.out GE518.out) hb)
                            have n3_ := sA (hbox)
                            have n4_ := sA ((by rw [hg]; exact (below_size (upB2 HB.out GE517.out GE518.out)) : w.heap.size ≤ gb534))
                            have n5_ := sA ((by rw [hg]; exact (below_size (upB2 HB.out GE517.out GE518.out)) : w.heap.size ≤ gb534))
                            have n6_ := sA ((by rw [hg]; exact Nat.ne_of_lt (blk_lt (g := gb517) (upK BK517.out)) : gb517 ≠ gb534))
                            have n7_ := sA ((by rw [hg]; exact Nat.ne_of_gt (blk_lt (g := gb517) (upK BK517.out)) : gb534 ≠ gb517))
                            have n8_ := sA ((by rw [hg]; exact Nat.ne_of_lt (blk_lt (g := gb518) (upK BK518.out)) : gb518 ≠ gb534))
                            have n9_ := sA ((by rw [hg]; exact Nat.ne_of_gt (blk_lt (g := gb518) (upK BK518.out)) : gb534 ≠ gb518))
                            clear BK517
                            clear BK518
                            clear HB
                            have BK517 := n0_
                            have BK518 := n1_
                            have HB := n2_
                            have BK534 := n3_
                            have GW534 := n4_
                            have GE534 := n5_
                            have NB517_534 := n6_
                            have NB534_517 := n7_
                            have NB518_534 := n8_
                            have NB534_518 := n9_
                            clear n0_ n1_ n2_ n3_ n4_ n5_ n6_ n7_ n8_ n9_
                            clear hb hbox hg
                            refine hK.out _ _ ⟨(blk_cell BK517.out 0).trans rfl, (blk_cell BK517.out 1).trans rfl, (blk_cell BK517.out 2).trans rfl⟩ (fun hHeld => ?_)
                            clear hK K
                            refine norm_ (a' := ?_) ?_ ?_
                            rotate_left
                            ·
                             show Act.put _ (some 11) _ = _
                             simp only [Act.put, upL, i64_w, i32_w]
                             rfl
                            exact norm_ upZ (hJ12 (gb534) _ ⟨hHeld, (upK BK517.out), (upK BK518.out), (upK BK534.out), GW534.out, GE534.out, NB517_534.out, NB534_517.out, NB518_534.out, NB534_518.out, (upB3 HB.out GE517.out GE518.out GE534.out)⟩)
                          ·
                           skip
                           rintro gb534 w23 ⟨hS_, h0_, h1_, h2_, h3_, h4_, h5_, h6_, h7_, h8_, h9_⟩
                           have n0_ := sA h0_
                           have n1_ := sA h1_
                           have n2_ := sA h2_
                           have n3_ := sA h3_
                           have n4_ := sA h4_
                           have n5_ := sA h5_
                           have n6_ := sA h6_
                           have n7_ := sA h7_
                           have n8_ := sA h8_
                           have n9_ := sA h9_
                           clear BK517
                           clear BK518
                           clear HB
                           clear h0_ h1_ h2_ h3_ h4_ h5_ h6_ h7_ h8_ h9_
                           have BK517 := n0_
                           have BK518 := n1_
                           have BK534 := n2_
                           have GW534 := n3_
                           have GE534 := n4_
                           have NB517_534 := n5_
                           have NB534_517 := n6_
                           have NB518_534 := n7_
                           have NB534_518 := n8_
                           have HB := n9_
                           clear n0_ n1_ n2_ n3_ n4_ n5_ n6_ n7_ n8_ n9_
                           have hHeld : w23.cell? ⟨gb517, 0, none⟩ = some (.slice A0_0 l0_0.length c0_0) ∧ w23.cell? ⟨gb517, 1, none⟩ = some (.slice A0_1 l0_1.length c0_1) ∧ w23.cell? ⟨gb517, 2, none⟩ = some (.slice A0_2 l0_2.length c0_2) := hS_
                           refine norm_ (a' := ?_) ?_ ?_
                           rotate_left
                           ·
                            simp only [putAll, Act.put, upL]
                            rfl
                           refine two_ (i := 0) (j := 7) (Ni := some 12) (Nj := some 19) #[true, true, true, false, true, true, false, false, true, true, false, false, true, false] #[false, true, true, false, true, true, false, true, true, true, false, false, true, false] rfl rfl rfl rfl (two_of HT_.out (by kernel_rfl)) (by decide) (by decide) (fun K hK => ?_) (fun K hK => ?_)
                           ·
                            skip
                            refine Kd.R_lit_step (Kd.int .i64) _ 3 ?hg (N := 12) ?hd (xs := ([] : List Int)) (inner := []) (ok := fun _ => True) (okp := fun _ => True) ?hr ?hp (fun _ hk => hk) trivial (Below.refl _ _) (Nat.le_refl _) (by simp) ?_; (case hd => rfl); (case hg => rfl); (case hr => first | (go_simp; done) | (go_simp; rfl)); (case hp => exact (Reps.none _ _))
                            intro v520 w24 ho25 hb hg_ hnew_
                            clear hg_ hnew_
                            (first | rw [← Ny519.out] at ho25 | (simp only [Int.reduceToNat] at ho25; rw [← Ny519.out] at ho25))
                            have n0_ := sA (Kd.R_lower ho25 (below_size (upB3 HB.out GE517.out GE518.out GE534.out)))
                            have n1_ := sA (blk_below (g := gb517) (upK BK517.out) hb)
                            have n2_ := sA (blk_below (g := gb518) (upK BK518.out) hb)
                            have n3_ := sA (blk_below (g := gb534) (upK BK534.out) hb)
                            have n4_ := sA (below_step (upB3 HB.out GE517.out GE518.out GE534.out) hb)
                            clear BK517
                            clear BK518
                            clear BK534
                            clear HB
                            have HO521 := n0_
                            have BK517 := n1_
                            have BK518 := n2_
                            have BK534 := n3_
                            have HB := n4_
                            clear n0_ n1_ n2_ n3_ n4_
                            clear hb ho25
                            refine hK.out _ _ ⟨(blk_cell BK517.out 0).trans rfl, (blk_cell BK517.out 1).trans rfl, (blk_cell BK517.out 2).trans rfl⟩ (fun hHeld => ?_)
                            clear hK K
                            refine norm_ (a' := ?_) ?_ ?_
                            rotate_left
                            ·
                             show Act.put _ (some 12) _ = _
                             simp only [Act.put, upL, i64_w, i32_w]
                             rfl
                            exact norm_ upZ (hJ0_12 (v520, gb534) _ ⟨hHeld, (upR HO521.out), (upK BK517.out), (upK BK518.out), (upK BK534.out), GW534.out, GE534.out, NB517_534.out, NB534_517.out, NB518_534.out, NB534_518.out, (upB3 HB.out GE517.out GE518.out GE534.out)⟩)
                           ·
                            skip
                            refine Kd.R_lit_step (Kd.int .i64) _ 3 ?hg (N := 19) ?hd (xs := ([] : List Int)) (inner := []) (ok := fun _ => True) (okp := fun _ => True) ?hr ?hp (fun _ hk => hk) trivial (Below.refl _ _) (Nat.le_refl _) (by simp) ?_; (case hd => rfl); (case hg => rfl); (case hr => first | (go_simp; done) | (go_simp; rfl)); (case hp => exact (Reps.none _ _))
                            intro v529 w24 ho25 hb hg_ hnew_
                            clear hg_ hnew_
                            (first | rw [← Ny528.out] at ho25 | (simp only [Int.reduceToNat] at ho25; rw [← Ny528.out] at ho25))
                            have n0_ := sA (Kd.R_lower ho25 (below_size (upB3 HB.out GE517.out GE518.out GE534.out)))
                            have n1_ := sA (blk_below (g := gb517) (upK BK517.out) hb)
                            have n2_ := sA (blk_below (g := gb518) (upK BK518.out) hb)
                            have n3_ := sA (blk_below (g := gb534) (upK BK534.out) hb)
                            have n4_ := sA (below_step (upB3 HB.out GE517.out GE518.out GE534.out) hb)
                            clear BK517
                            clear BK518
                            clear BK534
                            clear HB
                            have HO530 := n0_
                            have BK517 := n1_
                            have BK518 := n2_
                            have BK534 := n3_
                            have HB := n4_
                            clear n0_ n1_ n2_ n3_ n4_
                            clear hb ho25
                            refine hK.out _ _ ⟨(blk_cell BK517.out 0).trans rfl, (blk_cell BK517.out 1).trans rfl, (blk_cell BK517.out 2).trans rfl⟩ (fun hHeld => ?_)
                            clear hK K
                            refine norm_ (a' := ?_) ?_ ?_
                            rotate_left
                            ·
                             show Act.put _ (some 19) _ = _
                             simp only [Act.put, upL, i64_w, i32_w]
                             rfl
                            exact norm_ upZ (hJ7_12 (v529, gb534) _ ⟨hHeld, (upR HO530.out), (upK BK517.out), (upK BK518.out), (upK BK534.out), GW534.out, GE534.out, NB517_534.out, NB534_517.out, NB518_534.out, NB534_518.out, (upB3 HB.out GE517.out GE518.out GE534.out)⟩)
                         ·
                          skip
                          rintro v529 w24 ⟨hS_, h0_, h1_, h2_, h3_⟩
                          have n0_ := sA h0_
                          have n1_ := sA h1_
                          have n2_ := sA h2_
                          have n3_ := sA h3_
                          clear BK517
                          clear BK518
                          clear HB
                          clear h0_ h1_ h2_ h3_
                          have HO530 := n0_
                          have BK517 := n1_
                          have BK518 := n2_
                          have HB := n3_
                          clear n0_ n1_ n2_ n3_
                          have hHeld : w24.cell? ⟨gb517, 0, none⟩ = some (.slice A0_0 l0_0.length c0_0) ∧ w24.cell? ⟨gb517, 1, none⟩ = some (.slice A0_1 l0_1.length c0_1) ∧ w24.cell? ⟨gb517, 2, none⟩ = some (.slice A0_2 l0_2.length c0_2) := hS_
                          refine norm_ (a' := ?_) ?_ ?_
                          rotate_left
                          ·
                           simp only [putAll, Act.put, upL]
                           rfl
                          refine two_ (i := 0) (j := 12) (Ni := some 12) (Nj := some 11) #[true, true, true, false, true, true, false, true, true, true, false, false, false, false] #[false, true, true, false, true, true, false, true, true, true, false, false, true, false] rfl rfl rfl rfl (two_of HT_.out (by kernel_rfl)) (by decide) (by decide) (fun K hK => ?_) (fun K hK => ?_)
                          ·
                           skip
                           refine Kd.R_lit_step (Kd.int .i64) _ 3 ?hg (N := 12) ?hd (xs := ([] : List Int)) (inner := []) (ok := fun _ => True) (okp := fun _ => True) ?hr ?hp (fun _ hk => hk) trivial (Below.refl _ _) (Nat.le_refl _) (by simp) ?_; (case hd => rfl); (case hg => rfl); (case hr => first | (go_simp; done) | (go_simp; rfl)); (case hp => exact (Reps.none _ _))
                           intro v520 w25 ho26 hb hg_ hnew_
                           clear hg_ hnew_
                           (first | rw [← Ny519.out] at ho26 | (simp only [Int.reduceToNat] at ho26; rw [← Ny519.out] at ho26))
                           have n0_ := sA (Kd.R_elder' (upR HO530.out) (Kd.R_base ho26) hb)
                           have n1_ := sA (Kd.R_lower (Kd.R_new' ho26 (Kd.R_lt (upR HO530.out))) (below_size (upB2 HB.out GE517.out GE518.out)))
                           have n2_ := sA (blk_below (g := gb517) (upK BK517.out) hb)
                           have n3_ := sA (blk_below (g := gb518) (upK BK518.out) hb)
                           have n4_ := sA (below_step (upB2 HB.out GE517.out GE518.out) hb)
                           clear HO530
                           clear BK517
                           clear BK518
                           clear HB
                           have HO530 := n0_
                           have HO521 := n1_
                           have BK517 := n2_
                           have BK518 := n3_
                           have HB := n4_
                           clear n0_ n1_ n2_ n3_ n4_
                           clear hb ho26
                           refine hK.out _ _ ⟨(blk_cell BK517.out 0).trans rfl, (blk_cell BK517.out 1).trans rfl, (blk_cell BK517.out 2).trans rfl⟩ (fun hHeld => ?_)
                           clear hK K
                           refine norm_ (a' := ?_) ?_ ?_
                           rotate_left
                           ·
                            show Act.put _ (some 12) _ = _
                            simp only [Act.put, upL, i64_w, i32_w]
                            rfl
                           exact norm_ upZ (hJ0_7 (v520, v529) _ ⟨hHeld, (by (with_reducible repeat (first | apply Kd.R_alloc | apply Kd.R_drewN | apply Kd.R_drew)); exact Kd.R_mono HO521.out (fun _ hk => hk.2)), (by (with_reducible repeat (first | apply Kd.R_alloc | apply Kd.R_drewN | apply Kd.R_drew)); exact Kd.R_mono HO530.out (fun _ hk => hk.2)), (upK BK517.out), (upK BK518.out), (upB2 HB.out GE517.out GE518.out)⟩)
                          ·
                           skip
                           refine box_step ?hg (N := 11) ?hd (cs := #[.slice none 0 0, .slice none 0 0, .slice none 0 0]) (t := 75) ?hr ?_; (case hd => rfl); (case hg => rfl); (case hr => first | (go_simp; done) | (go_simp; rfl))
                           intro gb534 hg w25 hbox hb
                           have n0_ := sA (Kd.R_below (upR HO530.out) hb)
                           have n1_ := sA (blk_below (g := gb517) (upK BK517.out) hb)
                           have n2_ := sA (blk_below (g := gb518) (upK BK518.out) hb)
                           have n3_ := sA (below_step (upB2 HB.out GE517.out GE518.out) hb)
                           have n4_ := sA (hbox)
                           have n5_ := sA ((by rw [hg]; exact (below_size (upB2 HB.out GE517.out GE518.out)) : w.heap.size ≤ gb534))
                           have n6_ := sA ((by rw [hg]; exact (below_size (upB2 HB.out GE517.out GE518.out)) : w.heap.size ≤ gb534))
                           have n7_ := sA ((by rw [hg]; exact Nat.ne_of_lt (blk_lt (g := gb517) (upK BK517.out)) : gb517 ≠ gb534))
                           have n8_ := sA ((by rw [hg]; exact Nat.ne_of_gt (blk_lt (g := gb517) (upK BK517.out)) : gb534 ≠ gb517))
                           have n9_ := sA ((by rw [hg]; exact Nat.ne_of_lt (blk_lt (g := gb518) (upK BK518.out)) : gb518 ≠ gb534))
                           have n10_ := sA ((by rw [hg]; exact Nat.ne_of_gt (blk_lt (g := gb518) (upK BK518.out)) : gb534 ≠ gb518))
                           clear HO530
                           clear BK517
                           clear BK518
                           clear HB
                           have HO530 := n0_
                           have BK517 := n1_
                           have BK518 := n2_
                           have HB := n3_
                           have BK534 := n4_
                           have GW534 := n5_
                           have GE534 := n6_
                           have NB517_534 := n7_
                           have NB534_517 := n8_
                           have NB518_534 := n9_
                           have NB534_518 := n10_
                           clear n0_ n1_ n2_ n3_ n4_ n5_ n6_ n7_ n8_ n9_ n10_
                           clear hb hbox hg
                           refine hK.out _ _ ⟨(blk_cell BK517.out 0).trans rfl, (blk_cell BK517.out 1).trans rfl, (blk_cell BK517.out 2).trans rfl⟩ (fun hHeld => ?_)
                           clear hK K
                           refine norm_ (a' := ?_) ?_ ?_
                           rotate_left
                           ·
                            show Act.put _ (some 11) _ = _
                            simp only [Act.put, upL, i64_w, i32_w]
                            rfl
                           exact norm_ upZ (hJ7_12 (v529, gb534) _ ⟨hHeld, (upR HO530.out), (upK BK517.out), (upK BK518.out), (upK BK534.out), GW534.out, GE534.out, NB517_534.out, NB534_517.out, NB518_534.out, NB534_518.out, (upB3 HB.out GE517.out GE518.out GE534.out)⟩)
                        ·
                         skip
                         rintro v520 w24 ⟨hS_, h0_, h1_, h2_, h3_⟩
                         have n0_ := sA h0_
                         have n1_ := sA h1_
                         have n2_ := sA h2_
                         have n3_ := sA h3_
                         clear BK517
                         clear BK518
                         clear HB
                         clear h0_ h1_ h2_ h3_
                         have HO521 := n0_
                         have BK517 := n1_
                         have BK518 := n2_
                         have HB := n3_
                         clear n0_ n1_ n2_ n3_
                         have hHeld : w24.cell? ⟨gb517, 0, none⟩ = some (.slice A0_0 l0_0.length c0_0) ∧ w24.cell? ⟨gb517, 1, none⟩ = some (.slice A0_1 l0_1.length c0_1) ∧ w24.cell? ⟨gb517, 2, none⟩ = some (.slice A0_2 l0_2.length c0_2) := hS_
                         refine norm_ (a' := ?_) ?_ ?_
                         rotate_left
                         ·
                          simp only [putAll, Act.put, upL]
                          rfl
                         refine three_ (i := 3) (j := 7) (k := 12) (Ni := some 15) (Nj := some 19) (Nk := some 11) #[true, true, true, true, true, true, false, false, true, true, false, false, false, false] #[true, true, true, false, true, true, false, true, true, true, false, false, false, false] #[true, true, true, false, true, true, false, false, true, true, false, false, true, false] rfl rfl rfl rfl rfl rfl (three_of HT_.out (by kernel_rfl)) (by decide) (by decide) (by decide) (fun K hK => ?_) (fun K hK => ?_) (fun K hK => ?_)
                         ·
                          skip
                          refine Kd.R_append_rows_step (Kd.int .i64) (w0 := w) w.heap.size (by rfl) (.tmp 12) (.tmp 14) 31 3 (.int .i64 0) 8 rfl Try.underlying31 info3 rfl (by decide) (by omega) v520 y519 l0_0 _ _ _ (fun _ => True) (fun _ => False) rfl rfl ?aO ?aR (fun _ _ h => h) (fun _ h => h.elim) ?aF ?aB ?aS ?aL ?_
                          (case aR => exact upX (Kd.C_below HR0_0.out HB.out))
                          (case aB => exact (upB2 HB.out GE517.out GE518.out))
                          (case aF => exact (fun _ _ => trivial))
                          (case aO => exact (upR HO521.out))
                          (case aS => exact (below_size (upB2 HB.out GE517.out GE518.out)))
                          (case aL => have := LMc6.out; omega)
                          intro v523 w25 ho hb hg hat
                          rw [← Ny522.out] at ho
                          have n0_ := sA (blk_grown (g := gb517) (upK BK517.out) hg (Kd.R_ne HO521.out BK517.out (by decide)))
                          have n1_ := sA (blk_grown (g := gb518) (upK BK518.out) hg (Kd.R_ne HO521.out BK518.out (by decide)))
                          have n2_ := sA (hb)
                          have n3_ := sA (ho)
                          clear BK517
                          clear BK518
                          clear HB
                          clear HO521
                          have BK517 := n0_
                          have BK518 := n1_
                          have HB := n2_
                          have HO524 := n3_
                          clear n0_ n1_ n2_ n3_
                          clear ho hb hg hat
                          refine hK.out _ _ ⟨(blk_cell BK517.out 0).trans rfl, (blk_cell BK517.out 1).trans rfl, (blk_cell BK517.out 2).trans rfl⟩ (fun hHeld => ?_)
                          clear hK K
                          refine norm_ (a' := ?_) ?_ ?_
                          rotate_left
                          ·
                           show Act.put _ (some 15) _ = _
                           simp only [Act.put, upL, i64_w, i32_w]
                           rfl
                          exact norm_ upZ (hJ0_3 (v520, v523) _ ⟨hHeld, (upR HO524.out), (upK BK517.out), (upK BK518.out), (upB2 HB.out GE517.out GE518.out)⟩)
                         ·
                          skip
                          refine Kd.R_lit_step (Kd.int .i64) _ 3 ?hg (N := 19) ?hd (xs := ([] : List Int)) (inner := []) (ok := fun _ => True) (okp := fun _ => True) ?hr ?hp (fun _ hk => hk) trivial (Below.refl _ _) (Nat.le_refl _) (by simp) ?_; (case hd => rfl); (case hg => rfl); (case hr => first | (go_simp; done) | (go_simp; rfl)); (case hp => exact (Reps.none _ _))
                          intro v529 w25 ho26 hb hg_ hnew_
                          clear hg_ hnew_
                          (first | rw [← Ny528.out] at ho26 | (simp only [Int.reduceToNat] at ho26; rw [← Ny528.out] at ho26))
                          have n0_ := sA (Kd.R_elder' (upR HO521.out) (Kd.R_base ho26) hb)
                          have n1_ := sA (Kd.R_lower (Kd.R_new' ho26 (Kd.R_lt (upR HO521.out))) (below_size (upB2 HB.out GE517.out GE518.out)))
                          have n2_ := sA (blk_below (g := gb517) (upK BK517.out) hb)
                          have n3_ := sA (blk_below (g := gb518) (upK BK518.out) hb)
                          have n4_ := sA (below_step (upB2 HB.out GE517.out GE518.out) hb)
                          clear HO521
                          clear BK517
                          clear BK518
                          clear HB
                          have HO521 := n0_
                          have HO530 := n1_
                          have BK517 := n2_
                          have BK518 := n3_
                          have HB := n4_
                          clear n0_ n1_ n2_ n3_ n4_
                          clear hb ho26
                          refine hK.out _ _ ⟨(blk_cell BK517.out 0).trans rfl, (blk_cell BK517.out 1).trans rfl, (blk_cell BK517.out 2).trans rfl⟩ (fun hHeld => ?_)
                          clear hK K
                          refine norm_ (a' := ?_) ?_ ?_
                          rotate_left
                          ·
                           show Act.put _ (some 19) _ = _
                           simp only [Act.put, upL, i64_w, i32_w]
                           rfl
                          exact norm_ upZ (hJ0_7 (v520, v529) _ ⟨hHeld, (by (with_reducible repeat (first | apply Kd.R_alloc | apply Kd.R_drewN | apply Kd.R_drew)); exact Kd.R_mono HO521.out (fun _ hk => hk.2)), (by (with_reducible repeat (first | apply Kd.R_alloc | apply Kd.R_drewN | apply Kd.R_drew)); exact Kd.R_mono HO530.out (fun _ hk => hk.2)), (upK BK517.out), (upK BK518.out), (upB2 HB.out GE517.out GE518.out)⟩)
                         ·
                          skip
                          refine box_step ?hg (N := 11) ?hd (cs := #[.slice none 0 0, .slice none 0 0, .slice none 0 0]) (t := 75) ?hr ?_; (case hd => rfl); (case hg => rfl); (case hr => first | (go_simp; done) | (go_simp; rfl))
                          intro gb534 hg w25 hbox hb
                          have n0_ := sA (Kd.R_below (upR HO521.out) hb)
                          have n1_ := sA (blk_below (g := gb517) (upK BK517.out) hb)
                          have n2_ := sA (blk_below (g := gb518) (upK BK518.out) hb)
                          have n3_ := sA (below_step (upB2 HB.out GE517.out GE518.out) hb)
                          have n4_ := sA (hbox)
                          have n5_ := sA ((by rw [hg]; exact (below_size (upB2 HB.out GE517.out GE518.out)) : w.heap.size ≤ gb534))
                          have n6_ := sA ((by rw [hg]; exact (below_size (upB2 HB.out GE517.out GE518.out)) : w.heap.size ≤ gb534))
                          have n7_ := sA ((by rw [hg]; exact Nat.ne_of_lt (blk_lt (g := gb517) (upK BK517.out)) : gb517 ≠ gb534))
                          have n8_ := sA ((by rw [hg]; exact Nat.ne_of_gt (blk_lt (g := gb517) (upK BK517.out)) : gb534 ≠ gb517))
                          have n9_ := sA ((by rw [hg]; exact Nat.ne_of_lt (blk_lt (g := gb518) (upK BK518.out)) : gb518 ≠ gb534))
                          have n10_ := sA ((by rw [hg]; exact Nat.ne_of_gt (blk_lt (g := gb518) (upK BK518.out)) : gb534 ≠ gb518))
                          clear HO521
                          clear BK517
                          clear BK518
                          clear HB
                          have HO521 := n0_
                          have BK517 := n1_
                          have BK518 := n2_
                          have HB := n3_
                          have BK534 := n4_
                          have GW534 := n5_
                          have GE534 := n6_
                          have NB517_534 := n7_
                          have NB534_517 := n8_
                          have NB518_534 := n9_
                          have NB534_518 := n10_
                          clear n0_ n1_ n2_ n3_ n4_ n5_ n6_ n7_ n8_ n9_ n10_
                          clear hb hbox hg
                          refine hK.out _ _ ⟨(blk_cell BK517.out 0).trans rfl, (blk_cell BK517.out 1).trans rfl, (blk_cell BK517.out 2).trans rfl⟩ (fun hHeld => ?_)
                          clear hK K
                          refine norm_ (a' := ?_) ?_ ?_
                          rotate_left
                          ·
                           show Act.put _ (some 11) _ = _
                           simp only [Act.put, upL, i64_w, i32_w]
                           rfl
                          exact norm_ upZ (hJ0_12 (v520, gb534) _ ⟨hHeld, (upR HO521.out), (upK BK517.out), (upK BK518.out), (upK BK534.out), GW534.out, GE534.out, NB517_534.out, NB534_517.out, NB518_534.out, NB534_518.out, (upB3 HB.out GE517.out GE518.out GE534.out)⟩)
                       ·
                        skip
                        rintro ⟨v529, gb534⟩ w25 ⟨hS_, h0_, h1_, h2_, h3_, h4_, h5_, h6_, h7_, h8_, h9_, h10_⟩
                        have n0_ := sA h0_
                        have n1_ := sA h1_
                        have n2_ := sA h2_
                        have n3_ := sA h3_
                        have n4_ := sA h4_
                        have n5_ := sA h5_
                        have n6_ := sA h6_
                        have n7_ := sA h7_
                        have n8_ := sA h8_
                        have n9_ := sA h9_
                        have n10_ := sA h10_
                        clear BK517
                        clear BK518
                        clear HB
                        clear h0_ h1_ h2_ h3_ h4_ h5_ h6_ h7_ h8_ h9_ h10_
                        have HO530 := n0_
                        have BK517 := n1_
                        have BK518 := n2_
                        have BK534 := n3_
                        have GW534 := n4_
                        have GE534 := n5_
                        have NB517_534 := n6_
                        have NB534_517 := n7_
                        have NB518_534 := n8_
                        have NB534_518 := n9_
                        have HB := n10_
                        clear n0_ n1_ n2_ n3_ n4_ n5_ n6_ n7_ n8_ n9_ n10_
                        have hHeld : w25.cell? ⟨gb517, 0, none⟩ = some (.slice A0_0 l0_0.length c0_0) ∧ w25.cell? ⟨gb517, 1, none⟩ = some (.slice A0_1 l0_1.length c0_1) ∧ w25.cell? ⟨gb517, 2, none⟩ = some (.slice A0_2 l0_2.length c0_2) := hS_
                        refine norm_ (a' := ?_) ?_ ?_
                        rotate_left
                        ·
                         simp only [putAll, Act.put, upL]
                         rfl
                        refine one_ (i := 0) (N := some 12) #[true, true, true, false, true, true, false, true, true, true, false, false, true, false] rfl rfl (one_of HT_.out (by kernel_rfl)) (by decide) (fun K hK => ?_)
                        refine Kd.R_lit_step (Kd.int .i64) _ 3 ?hg (N := 12) ?hd (xs := ([] : List Int)) (inner := []) (ok := fun _ => True) (okp := fun _ => True) ?hr ?hp (fun _ hk => hk) trivial (Below.refl _ _) (Nat.le_refl _) (by simp) ?_; (case hd => rfl); (case hg => rfl); (case hr => first | (go_simp; done) | (go_simp; rfl)); (case hp => exact (Reps.none _ _))
                        intro v520 w26 ho27 hb hg_ hnew_
                        clear hg_ hnew_
                        (first | rw [← Ny519.out] at ho27 | (simp only [Int.reduceToNat] at ho27; rw [← Ny519.out] at ho27))
                        have n0_ := sA (Kd.R_elder' (upR HO530.out) (Kd.R_base ho27) hb)
                        have n1_ := sA (Kd.R_lower (Kd.R_new' ho27 (Kd.R_lt (upR HO530.out))) (below_size (upB3 HB.out GE517.out GE518.out GE534.out)))
                        have n2_ := sA (blk_below (g := gb517) (upK BK517.out) hb)
                        have n3_ := sA (blk_below (g := gb518) (upK BK518.out) hb)
                        have n4_ := sA (blk_below (g := gb534) (upK BK534.out) hb)
                        have n5_ := sA (below_step (upB3 HB.out GE517.out GE518.out GE534.out) hb)
                        clear HO530
                        clear BK517
                        clear BK518
                        clear BK534
                        clear HB
                        have HO530 := n0_
                        have HO521 := n1_
                        have BK517 := n2_
                        have BK518 := n3_
                        have BK534 := n4_
                        have HB := n5_
                        clear n0_ n1_ n2_ n3_ n4_ n5_
                        clear hb ho27
                        refine hK.out _ _ ⟨(blk_cell BK517.out 0).trans rfl, (blk_cell BK517.out 1).trans rfl, (blk_cell BK517.out 2).trans rfl⟩ (fun hHeld => ?_)
                        clear hK K
                        refine norm_ (a' := ?_) ?_ ?_
                        rotate_left
                        ·
                         show Act.put _ (some 12) _ = _
                         simp only [Act.put, upL, i64_w, i32_w]
                         rfl
                        exact norm_ upZ (hJ0_7_12 (v520, v529, gb534) _ ⟨hHeld, (by (with_reducible repeat (first | apply Kd.R_alloc | apply Kd.R_drewN | apply Kd.R_drew)); exact Kd.R_mono HO521.out (fun _ hk => hk.2)), (by (with_reducible repeat (first | apply Kd.R_alloc | apply Kd.R_drewN | apply Kd.R_drew)); exact Kd.R_mono HO530.out (fun _ hk => hk.2)), (upK BK517.out), (upK BK518.out), (upK BK534.out), GW534.out, GE534.out, NB517_534.out, NB534_517.out, NB518_534.out, NB534_518.out, (upB3 HB.out GE517.out GE518.out GE534.out)⟩)
                      ·
                       skip
                       rintro ⟨v520, gb534⟩ w25 ⟨hS_, h0_, h1_, h2_, h3_, h4_, h5_, h6_, h7_, h8_, h9_, h10_⟩
                       have n0_ := sA h0_
                       have n1_ := sA h1_
                       have n2_ := sA h2_
                       have n3_ := sA h3_
                       have n4_ := sA h4_
                       have n5_ := sA h5_
                       have n6_ := sA h6_
                       have n7_ := sA h7_
                       have n8_ := sA h8_
                       have n9_ := sA h9_
                       have n10_ := sA h10_
                       clear BK517
                       clear BK518
                       clear HB
                       clear h0_ h1_ h2_ h3_ h4_ h5_ h6_ h7_ h8_ h9_ h10_
                       have HO521 := n0_
                       have BK517 := n1_
                       have BK518 := n2_
                       have BK534 := n3_
                       have GW534 := n4_
                       have GE534 := n5_
                       have NB517_534 := n6_
                       have NB534_517 := n7_
                       have NB518_534 := n8_
                       have NB534_518 := n9_
                       have HB := n10_
                       clear n0_ n1_ n2_ n3_ n4_ n5_ n6_ n7_ n8_ n9_ n10_
                       have hHeld : w25.cell? ⟨gb517, 0, none⟩ = some (.slice A0_0 l0_0.length c0_0) ∧ w25.cell? ⟨gb517, 1, none⟩ = some (.slice A0_1 l0_1.length c0_1) ∧ w25.cell? ⟨gb517, 2, none⟩ = some (.slice A0_2 l0_2.length c0_2) := hS_
                       refine norm_ (a' := ?_) ?_ ?_
                       rotate_left
                       ·
                        simp only [putAll, Act.put, upL]
                        rfl
                       refine two_ (i := 3) (j := 7) (Ni := some 15) (Nj := some 19) #[true, true, true, true, true, true, false, false, true, true, false, false, true, false] #[true, true, true, false, true, true, false, true, true, true, false, false, true, false] rfl rfl rfl rfl (two_of HT_.out (by kernel_rfl)) (by decide) (by decide) (fun K hK => ?_) (fun K hK => ?_)
                       ·
                        skip
                        refine Kd.R_append_rows_step (Kd.int .i64) (w0 := w) w.heap.size (by rfl) (.tmp 12) (.tmp 14) 31 3 (.int .i64 0) 8 rfl Try.underlying31 info3 rfl (by decide) (by omega) v520 y519 l0_0 _ _ _ (fun _ => True) (fun _ => False) rfl rfl ?aO ?aR (fun _ _ h => h) (fun _ h => h.elim) ?aF ?aB ?aS ?aL ?_
                        (case aR => exact upX (Kd.C_below HR0_0.out HB.out))
                        (case aB => exact (upB3 HB.out GE517.out GE518.out GE534.out))
                        (case aF => exact (fun _ _ => trivial))
                        (case aO => exact (upR HO521.out))
                        (case aS => exact (below_size (upB3 HB.out GE517.out GE518.out GE534.out)))
                        (case aL => have := LMc6.out; omega)
                        intro v523 w26 ho hb hg hat
                        rw [← Ny522.out] at ho
                        have n0_ := sA (blk_grown (g := gb517) (upK BK517.out) hg (Kd.R_ne HO521.out BK517.out (by decide)))
                        have n1_ := sA (blk_grown (g := gb518) (upK BK518.out) hg (Kd.R_ne HO521.out BK518.out (by decide)))
                        have n2_ := sA (blk_grown (g := gb534) (upK BK534.out) hg (Kd.R_ne HO521.out BK534.out (by decide)))
                        have n3_ := sA (hb)
                        have n4_ := sA (ho)
                        clear BK517
                        clear BK518
                        clear BK534
                        clear HB
                        clear HO521
                        have BK517 := n0_
                        have BK518 := n1_
                        have BK534 := n2_
                        have HB := n3_
                        have HO524 := n4_
                        clear n0_ n1_ n2_ n3_ n4_
                        clear ho hb hg hat
                        refine hK.out _ _ ⟨(blk_cell BK517.out 0).trans rfl, (blk_cell BK517.out 1).trans rfl, (blk_cell BK517.out 2).trans rfl⟩ (fun hHeld => ?_)
                        clear hK K
                        refine norm_ (a' := ?_) ?_ ?_
                        rotate_left
                        ·
                         show Act.put _ (some 15) _ = _
                         simp only [Act.put, upL, i64_w, i32_w]
                         rfl
                        exact norm_ upZ (hJ0_3_12 (v520, v523, gb534) _ ⟨hHeld, (upR HO524.out), (upK BK517.out), (upK BK518.out), (upK BK534.out), GW534.out, GE534.out, NB517_534.out, NB534_517.out, NB518_534.out, NB534_518.out, (upB3 HB.out GE517.out GE518.out GE534.out)⟩)
                       ·
                        skip
                        refine Kd.R_lit_step (Kd.int .i64) _ 3 ?hg (N := 19) ?hd (xs := ([] : List Int)) (inner := []) (ok := fun _ => True) (okp := fun _ => True) ?hr ?hp (fun _ hk => hk) trivial (Below.refl _ _) (Nat.le_refl _) (by simp) ?_; (case hd => rfl); (case hg => rfl); (case hr => first | (go_simp; done) | (go_simp; rfl)); (case hp => exact (Reps.none _ _))
                        intro v529 w26 ho27 hb hg_ hnew_
                        clear hg_ hnew_
                        (first | rw [← Ny528.out] at ho27 | (simp only [Int.reduceToNat] at ho27; rw [← Ny528.out] at ho27))
                        have n0_ := sA (Kd.R_elder' (upR HO521.out) (Kd.R_base ho27) hb)
                        have n1_ := sA (Kd.R_lower (Kd.R_new' ho27 (Kd.R_lt (upR HO521.out))) (below_size (upB3 HB.out GE517.out GE518.out GE534.out)))
                        have n2_ := sA (blk_below (g := gb517) (upK BK517.out) hb)
                        have n3_ := sA (blk_below (g := gb518) (upK BK518.out) hb)
                        have n4_ := sA (blk_below (g := gb534) (upK BK534.out) hb)
                        have n5_ := sA (below_step (upB3 HB.out GE517.out GE518.out GE534.out) hb)
                        clear HO521
                        clear BK517
                        clear BK518
                        clear BK534
                        clear HB
                        have HO521 := n0_
                        have HO530 := n1_
                        have BK517 := n2_
                        have BK518 := n3_
                        have BK534 := n4_
                        have HB := n5_
                        clear n0_ n1_ n2_ n3_ n4_ n5_
                        clear hb ho27
                        refine hK.out _ _ ⟨(blk_cell BK517.out 0).trans rfl, (blk_cell BK517.out 1).trans rfl, (blk_cell BK517.out 2).trans rfl⟩ (fun hHeld => ?_)
                        clear hK K
                        refine norm_ (a' := ?_) ?_ ?_
                        rotate_left
                        ·
                         show Act.put _ (some 19) _ = _
                         simp only [Act.put, upL, i64_w, i32_w]
                         rfl
                        exact norm_ upZ (hJ0_7_12 (v520, v529, gb534) _ ⟨hHeld, (by (with_reducible repeat (first | apply Kd.R_alloc | apply Kd.R_drewN | apply Kd.R_drew)); exact Kd.R_mono HO521.out (fun _ hk => hk.2)), (by (with_reducible repeat (first | apply Kd.R_alloc | apply Kd.R_drewN | apply Kd.R_drew)); exact Kd.R_mono HO530.out (fun _ hk => hk.2)), (upK BK517.out), (upK BK518.out), (upK BK534.out), GW534.out, GE534.out, NB517_534.out, NB534_517.out, NB518_534.out, NB534_518.out, (upB3 HB.out GE517.out GE518.out GE534.out)⟩)
                     ·
                      skip
                      rintro ⟨v520, v529⟩ w26 ⟨hS_, h0_, h1_, h2_, h3_, h4_⟩
                      have n0_ := sA h0_
                      have n1_ := sA h1_
                      have n2_ := sA h2_
                      have n3_ := sA h3_
                      have n4_ := sA h4_
                      clear BK517
                      clear BK518
                      clear HB
                      clear h0_ h1_ h2_ h3_ h4_
                      have HO521 := n0_
                      have HO530 := n1_
                      have BK517 := n2_
                      have BK518 := n3_
                      have HB := n4_
                      clear n0_ n1_ n2_ n3_ n4_
                      have hHeld : w26.cell? ⟨gb517, 0, none⟩ = some (.slice A0_0 l0_0.length c0_0) ∧ w26.cell? ⟨gb517, 1, none⟩ = some (.slice A0_1 l0_1.length c0_1) ∧ w26.cell? ⟨gb517, 2, none⟩ = some (.slice A0_2 l0_2.length c0_2) := hS_
                      refine norm_ (a' := ?_) ?_ ?_
                      rotate_left
                      ·
                       simp only [putAll, Act.put, upL]
                       rfl
                      refine two_ (i := 3) (j := 12) (Ni := some 15) (Nj := some 11) #[true, true, true, true, true, true, false, true, true, true, false, false, false, false] #[true, true, true, false, true, true, false, true, true, true, false, false, true, false] rfl rfl rfl rfl (two_of HT_.out (by kernel_rfl)) (by decide) (by decide) (fun K hK => ?_) (fun K hK => ?_)
                      ·
                       skip
                       refine Kd.R_append_rows_step (Kd.int .i64) (w0 := w) w.heap.size (by rfl) (.tmp 12) (.tmp 14) 31 3 (.int .i64 0) 8 rfl Try.underlying31 info3 rfl (by decide) (by omega) v520 y519 l0_0 _ _ _ (fun k_ => some k_ ≠ (v529 : Value).ownBlock) (fun _ => False) rfl rfl ?aO ?aR (fun _ _ h => h) (fun _ h => h.elim) ?aF ?aB ?aS ?aL ?_
                       (case aR => exact upX (Kd.C_below HR0_0.out HB.out))
                       (case aB => exact (upB2 HB.out GE517.out GE518.out))
                       (case aF => exact (fun k_ hk => Kd.fresh' (Kd.R_lt (upR HO530.out)) k_ hk))
                       (case aO => exact (upR HO521.out))
                       (case aS => exact (below_size (upB2 HB.out GE517.out GE518.out)))
                       (case aL => have := LMc6.out; omega)
                       intro v523 w27 ho hb hg hat
                       rw [← Ny522.out] at ho
                       have n0_ := sA (blk_grown (g := gb517) (upK BK517.out) hg (Kd.R_ne HO521.out BK517.out (by decide)))
                       have n1_ := sA (blk_grown (g := gb518) (upK BK518.out) hg (Kd.R_ne HO521.out BK518.out (by decide)))
                       have n2_ := sA (Kd.R_after (ok := (fun _ => True)) (by (with_reducible repeat (first | apply Kd.R_alloc | apply Kd.R_drewN | apply Kd.R_drew)); exact Kd.R_mono HO530.out (fun _ hk => ⟨trivial, hk⟩)) hg hat)
                       have n3_ := sA (hb)
                       have n4_ := sA (ho)
                       clear BK517
                       clear BK518
                       clear HO530
                       clear HB
                       clear HO521
                       have BK517 := n0_
                       have BK518 := n1_
                       have HO530 := n2_
                       have HB := n3_
                       have HO524 := n4_
                       clear n0_ n1_ n2_ n3_ n4_
                       clear ho hb hg hat
                       refine hK.out _ _ ⟨(blk_cell BK517.out 0).trans rfl, (blk_cell BK517.out 1).trans rfl, (blk_cell BK517.out 2).trans rfl⟩ (fun hHeld => ?_)
                       clear hK K
                       refine norm_ (a' := ?_) ?_ ?_
                       rotate_left
                       ·
                        show Act.put _ (some 15) _ = _
                        simp only [Act.put, upL, i64_w, i32_w]
                        rfl
                       exact norm_ upZ (hJ0_3_7 (v520, v523, v529) _ ⟨hHeld, (upR HO524.out), (by (with_reducible repeat (first | apply Kd.R_alloc | apply Kd.R_drewN | apply Kd.R_drew)); exact Kd.R_mono HO530.out (fun _ hk => hk.2)), (upK BK517.out), (upK BK518.out), (upB2 HB.out GE517.out GE518.out)⟩)
                      ·
                       skip
                       refine box_step ?hg (N := 11) ?hd (cs := #[.slice none 0 0, .slice none 0 0, .slice none 0 0]) (t := 75) ?hr ?_; (case hd => rfl); (case hg => rfl); (case hr => first | (go_simp; done) | (go_simp; rfl))
                       intro gb534 hg w27 hbox hb
                       have n0_ := sA (Kd.R_below (upR HO521.out) hb)
                       have n1_ := sA (Kd.R_below (upR HO530.out) hb)
                       have n2_ := sA (blk_below (g := gb517) (upK BK517.out) hb)
                       have n3_ := sA (blk_below (g := gb518) (upK BK518.out) hb)
                       have n4_ := sA (below_step (upB2 HB.out GE517.out GE518.out) hb)
                       have n5_ := sA (hbox)
                       have n6_ := sA ((by rw [hg]; exact (below_size (upB2 HB.out GE517.out GE518.out)) : w.heap.size ≤ gb534))
                       have n7_ := sA ((by rw [hg]; exact (below_size (upB2 HB.out GE517.out GE518.out)) : w.heap.size ≤ gb534))
                       have n8_ := sA ((by rw [hg]; exact Nat.ne_of_lt (blk_lt (g := gb517) (upK BK517.out)) : gb517 ≠ gb534))
                       have n9_ := sA ((by rw [hg]; exact Nat.ne_of_gt (blk_lt (g := gb517) (upK BK517.out)) : gb534 ≠ gb517))
                       have n10_ := sA ((by rw [hg]; exact Nat.ne_of_lt (blk_lt (g := gb518) (upK BK518.out)) : gb518 ≠ gb534))
                       have n11_ := sA ((by rw [hg]; exact Nat.ne_of_gt (blk_lt (g := gb518) (upK BK518.out)) : gb534 ≠ gb518))
                       clear HO521
                       clear HO530
                       clear BK517
                       clear BK518
                       clear HB
                       have HO521 := n0_
                       have HO530 := n1_
                       have BK517 := n2_
                       have BK518 := n3_
                       have HB := n4_
                       have BK534 := n5_
                       have GW534 := n6_
                       have GE534 := n7_
                       have NB517_534 := n8_
                       have NB534_517 := n9_
                       have NB518_534 := n10_
                       have NB534_518 := n11_
                       clear n0_ n1_ n2_ n3_ n4_ n5_ n6_ n7_ n8_ n9_ n10_ n11_
                       clear hb hbox hg
                       refine hK.out _ _ ⟨(blk_cell BK517.out 0).trans rfl, (blk_cell BK517.out 1).trans rfl, (blk_cell BK517.out 2).trans rfl⟩ (fun hHeld => ?_)
                       clear hK K
                       refine norm_ (a' := ?_) ?_ ?_
                       rotate_left
                       ·
                        show Act.put _ (some 11) _ = _
                        simp only [Act.put, upL, i64_w, i32_w]
                        rfl
                       exact norm_ upZ (hJ0_7_12 (v520, v529, gb534) _ ⟨hHeld, (upR HO521.out), (upR HO530.out), (upK BK517.out), (upK BK518.out), (upK BK534.out), GW534.out, GE534.out, NB517_534.out, NB534_517.out, NB518_534.out, NB534_518.out, (upB3 HB.out GE517.out GE518.out GE534.out)⟩)
                    ·
                     skip
                     rintro ⟨v520, v523⟩ w25 ⟨hS_, h0_, h1_, h2_, h3_⟩
                     have n0_ := sA h0_
                     have n1_ := sA h1_
                     have n2_ := sA h2_
                     have n3_ := sA h3_
                     clear BK517
                     clear BK518
                     clear HB
                     clear h0_ h1_ h2_ h3_
                     have HO524 := n0_
                     have BK517 := n1_
                     have BK518 := n2_
                     have HB := n3_
                     clear n0_ n1_ n2_ n3_
                     have hHeld : w25.cell? ⟨gb517, 0, none⟩ = some (.slice A0_0 l0_0.length c0_0) ∧ w25.cell? ⟨gb517, 1, none⟩ = some (.slice A0_1 l0_1.length c0_1) ∧ w25.cell? ⟨gb517, 2, none⟩ = some (.slice A0_2 l0_2.length c0_2) := hS_
                     refine norm_ (a' := ?_) ?_ ?_
                     rotate_left
                     ·
                      simp only [putAll, Act.put, upL]
                      rfl
                     refine three_ (i := 6) (j := 7) (k := 12) (Ni := some 18) (Nj := some 19) (Nk := some 11) #[true, true, true, true, true, true, true, false, true, true, false, false, false, false] #[true, true, true, true, true, true, false, true, true, true, false, false, false, false] #[true, true, true, true, true, true, false, false, true, true, false, false, true, false] rfl rfl rfl rfl rfl rfl (three_of HT_.out (by kernel_rfl)) (by decide) (by decide) (by decide) (fun K hK => ?_) (fun K hK => ?_) (fun K hK => ?_)
                     ·
                      skip
                      refine goes_ Try.func32 (by kernel_rfl) rfl #[.slice A0_1 l0_1.length c0_1] (by rfl) rfl rfl upM ?_
                      with_reducible refine (kinkeepref35_Clone.calls k _ _ l0_1 t525 _ ?side1 ?side2 A7.out).mono ?_
                      (case side1 => exact upX (Kd.C_below HR0_1.out HB.out))
                      (case side2 => exact HC0_1.out)
                      rintro e w26 ⟨v526, rfl, ho0, hb⟩
                      refine ⟨_, rfl, ?_⟩
                      have n0_ := sA (Kd.R_below (upR HO524.out) hb)
                      have n1_ := sA (Kd.S_lower (Kd.S_new' ho0 (Kd.R_lt (upR HO524.out))) (below_size (upB2 HB.out GE517.out GE518.out)))
                      have n2_ := sA (blk_below (g := gb517) (upK BK517.out) hb)
                      have n3_ := sA (blk_below (g := gb518) (upK BK518.out) hb)
                      have n4_ := sA (below_step (upB2 HB.out GE517.out GE518.out) hb)
                      clear HO524
                      clear BK517
                      clear BK518
                      clear HB
                      have HO524 := n0_
                      have HO527 := n1_
                      have BK517 := n2_
                      have BK518 := n3_
                      have HB := n4_
                      clear n0_ n1_ n2_ n3_ n4_
                      (try clear hb)
                      (try clear hb2)
                      (try clear hk)
                      (try clear hi)
                      (try clear ho0)
                      refine hK.out _ _ ⟨(blk_cell BK517.out 0).trans rfl, (blk_cell BK517.out 1).trans rfl, (blk_cell BK517.out 2).trans rfl⟩ (fun hHeld => ?_)
                      clear hK K
                      refine norm_ (a' := ?_) ?_ ?_
                      rotate_left
                      ·
                       show Act.put _ (some 18) _ = _
                       simp only [Act.put, upL, i64_w, i32_w]
                       rfl
                      exact norm_ upZ (hJ0_3_6 (v520, v523, v526) _ ⟨hHeld, (upR HO524.out), (by (with_reducible repeat (first | apply Kd.S_alloc | apply Kd.S_drewN | apply Kd.S_drew)); exact Kd.S_mono HO527.out (fun _ hk => hk.2)), (upK BK517.out), (upK BK518.out), (upB2 HB.out GE517.out GE518.out)⟩)
                     ·
                      skip
                      refine Kd.R_lit_step (Kd.int .i64) _ 3 ?hg (N := 19) ?hd (xs := ([] : List Int)) (inner := []) (ok := fun _ => True) (okp := fun _ => True) ?hr ?hp (fun _ hk => hk) trivial (Below.refl _ _) (Nat.le_refl _) (by simp) ?_; (case hd => rfl); (case hg => rfl); (case hr => first | (go_simp; done) | (go_simp; rfl)); (case hp => exact (Reps.none _ _))
                      intro v529 w26 ho27 hb hg_ hnew_
                      clear hg_ hnew_
                      (first | rw [← Ny528.out] at ho27 | (simp only [Int.reduceToNat] at ho27; rw [← Ny528.out] at ho27))
                      have n0_ := sA (Kd.R_elder' (upR HO524.out) (Kd.R_base ho27) hb)
                      have n1_ := sA (Kd.R_lower (Kd.R_new' ho27 (Kd.R_lt (upR HO524.out))) (below_size (upB2 HB.out GE517.out GE518.out)))
                      have n2_ := sA (blk_below (g := gb517) (upK BK517.out) hb)
                      have n3_ := sA (blk_below (g := gb518) (upK BK518.out) hb)
                      have n4_ := sA (below_step (upB2 HB.out GE517.out GE518.out) hb)
                      clear HO524
                      clear BK517
                      clear BK518
                      clear HB
                      have HO524 := n0_
                      have HO530 := n1_
                      have BK517 := n2_
                      have BK518 := n3_
                      have HB := n4_
                      clear n0_ n1_ n2_ n3_ n4_
                      clear hb ho27
                      refine hK.out _ _ ⟨(blk_cell BK517.out 0).trans rfl, (blk_cell BK517.out 1).trans rfl, (blk_cell BK517.out 2).trans rfl⟩ (fun hHeld => ?_)
                      clear hK K
                      refine norm_ (a' := ?_) ?_ ?_
                      rotate_left
                      ·
                       show Act.put _ (some 19) _ = _
                       simp only [Act.put, upL, i64_w, i32_w]
                       rfl
                      exact norm_ upZ (hJ0_3_7 (v520, v523, v529) _ ⟨hHeld, (by (with_reducible repeat (first | apply Kd.R_alloc | apply Kd.R_drewN | apply Kd.R_drew)); exact Kd.R_mono HO524.out (fun _ hk => hk.2)), (by (with_reducible repeat (first | apply Kd.R_alloc | apply Kd.R_drewN | apply Kd.R_drew)); exact Kd.R_mono HO530.out (fun _ hk => hk.2)), (upK BK517.out), (upK BK518.out), (upB2 HB.out GE517.out GE518.out)⟩)
                     ·
                      skip
                      refine box_step ?hg (N := 11) ?hd (cs := #[.slice none 0 0, .slice none 0 0, .slice none 0 0]) (t := 75) ?hr ?_; (case hd => rfl); (case hg => rfl); (case hr => first | (go_simp; done) | (go_simp; rfl))
                      intro gb534 hg w26 hbox hb
                      have n0_ := sA (Kd.R_below (upR HO524.out) hb)
                      have n1_ := sA (blk_below (g := gb517) (upK BK517.out) hb)
                      have n2_ := sA (blk_below (g := gb518) (upK BK518.out) hb)
                      have n3_ := sA (below_step (upB2 HB.out GE517.out GE518.out) hb)
                      have n4_ := sA (hbox)
                      have n5_ := sA ((by rw [hg]; exact (below_size (upB2 HB.out GE517.out GE518.out)) : w.heap.size ≤ gb534))
                      have n6_ := sA ((by rw [hg]; exact (below_size (upB2 HB.out GE517.out GE518.out)) : w.heap.size ≤ gb534))
                      have n7_ := sA ((by rw [hg]; exact Nat.ne_of_lt (blk_lt (g := gb517) (upK BK517.out)) : gb517 ≠ gb534))
                      have n8_ := sA ((by rw [hg]; exact Nat.ne_of_gt (blk_lt (g := gb517) (upK BK517.out)) : gb534 ≠ gb517))
                      have n9_ := sA ((by rw [hg]; exact Nat.ne_of_lt (blk_lt (g := gb518) (upK BK518.out)) : gb518 ≠ gb534))
                      have n10_ := sA ((by rw [hg]; exact Nat.ne_of_gt (blk_lt (g := gb518) (upK BK518.out)) : gb534 ≠ gb518))
                      clear HO524
                      clear BK517
                      clear BK518
                      clear HB
                      have HO524 := n0_
                      have BK517 := n1_
                      have BK518 := n2_
                      have HB := n3_
                      have BK534 := n4_
                      have GW534 := n5_
                      have GE534 := n6_
                      have NB517_534 := n7_
                      have NB534_517 := n8_
                      have NB518_534 := n9_
                      have NB534_518 := n10_
                      clear n0_ n1_ n2_ n3_ n4_ n5_ n6_ n7_ n8_ n9_ n10_
                      clear hb hbox hg
                      refine hK.out _ _ ⟨(blk_cell BK517.out 0).trans rfl, (blk_cell BK517.out 1).trans rfl, (blk_cell BK517.out 2).trans rfl⟩ (fun hHeld => ?_)
                      clear hK K
                      refine norm_ (a' := ?_) ?_ ?_
                      rotate_left
                      ·
                       show Act.put _ (some 11) _ = _
                       simp only [Act.put, upL, i64_w, i32_w]
                       rfl
                      exact norm_ upZ (hJ0_3_12 (v520, v523, gb534) _ ⟨hHeld, (upR HO524.out), (upK BK517.out), (upK BK518.out), (upK BK534.out), GW534.out, GE534.out, NB517_534.out, NB534_517.out, NB518_534.out, NB534_518.out, (upB3 HB.out GE517.out GE518.out GE534.out)⟩)
                   ·
                    skip
                    rintro ⟨v520, v529, gb534⟩ w27 ⟨hS_, h0_, h1_, h2_, h3_, h4_, h5_, h6_, h7_, h8_, h9_, h10_, h11_⟩
                    have n0_ := sA h0_
                    have n1_ := sA h1_
                    have n2_ := sA h2_
                    have n3_ := sA h3_
                    have n4_ := sA h4_
                    have n5_ := sA h5_
                    have n6_ := sA h6_
                    have n7_ := sA h7_
                    have n8_ := sA h8_
                    have n9_ := sA h9_
                    have n10_ := sA h10_
                    have n11_ := sA h11_
                    clear BK517
                    clear BK518
                    clear HB
                    clear h0_ h1_ h2_ h3_ h4_ h5_ h6_ h7_ h8_ h9_ h10_ h11_
                    have HO521 := n0_
                    have HO530 := n1_
                    have BK517 := n2_
                    have BK518 := n3_
                    have BK534 := n4_
                    have GW534 := n5_
                    have GE534 := n6_
                    have NB517_534 := n7_
                    have NB534_517 := n8_
                    have NB518_534 := n9_
                    have NB534_518 := n10_
                    have HB := n11_
                    clear n0_ n1_ n2_ n3_ n4_ n5_ n6_ n7_ n8_ n9_ n10_ n11_
                    have hHeld : w27.cell? ⟨gb517, 0, none⟩ = some (.slice A0_0 l0_0.length c0_0) ∧ w27.cell? ⟨gb517, 1, none⟩ = some (.slice A0_1 l0_1.length c0_1) ∧ w27.cell? ⟨gb517, 2, none⟩ = some (.slice A0_2 l0_2.length c0_2) := hS_
                    refine norm_ (a' := ?_) ?_ ?_
                    rotate_left
                    ·
                     simp only [putAll, Act.put, upL]
                     rfl
                    refine one_ (i := 3) (N := some 15) #[true, true, true, true, true, true, false, true, true, true, false, false, true, false] rfl rfl (one_of HT_.out (by kernel_rfl)) (by decide) (fun K hK => ?_)
                    refine Kd.R_append_rows_step (Kd.int .i64) (w0 := w) w.heap.size (by rfl) (.tmp 12) (.tmp 14) 31 3 (.int .i64 0) 8 rfl Try.underlying31 info3 rfl (by decide) (by omega) v520 y519 l0_0 _ _ _ (fun k_ => some k_ ≠ (v529 : Value).ownBlock) (fun _ => False) rfl rfl ?aO ?aR (fun _ _ h => h) (fun _ h => h.elim) ?aF ?aB ?aS ?aL ?_
                    (case aR => exact upX (Kd.C_below HR0_0.out HB.out))
                    (case aB => exact (upB3 HB.out GE517.out GE518.out GE534.out))
                    (case aF => exact (fun k_ hk => Kd.fresh' (Kd.R_lt (upR HO530.out)) k_ hk))
                    (case aO => exact (upR HO521.out))
                    (case aS => exact (below_size (upB3 HB.out GE517.out GE518.out GE534.out)))
                    (case aL => have := LMc6.out; omega)
                    intro v523 w28 ho hb hg hat
                    rw [← Ny522.out] at ho
                    have n0_ := sA (blk_grown (g := gb517) (upK BK517.out) hg (Kd.R_ne HO521.out BK517.out (by decide)))
                    have n1_ := sA (blk_grown (g := gb518) (upK BK518.out) hg (Kd.R_ne HO521.out BK518.out (by decide)))
                    have n2_ := sA (Kd.R_after (ok := (fun _ => True)) (by (with_reducible repeat (first | apply Kd.R_alloc | apply Kd.R_drewN | apply Kd.R_drew)); exact Kd.R_mono HO530.out (fun _ hk => ⟨trivial, hk⟩)) hg hat)
                    have n3_ := sA (blk_grown (g := gb534) (upK BK534.out) hg (Kd.R_ne HO521.out BK534.out (by decide)))
                    have n4_ := sA (hb)
                    have n5_ := sA (ho)
                    clear BK517
                    clear BK518
                    clear HO530
                    clear BK534
                    clear HB
                    clear HO521
                    have BK517 := n0_
                    have BK518 := n1_
                    have HO530 := n2_
                    have BK534 := n3_
                    have HB := n4_
                    have HO524 := n5_
                    clear n0_ n1_ n2_ n3_ n4_ n5_
                    clear ho hb hg hat
                    refine hK.out _ _ ⟨(blk_cell BK517.out 0).trans rfl, (blk_cell BK517.out 1).trans rfl, (blk_cell BK517.out 2).trans rfl⟩ (fun hHeld => ?_)
                    clear hK K
                    refine norm_ (a' := ?_) ?_ ?_
                    rotate_left
                    ·
                     show Act.put _ (some 15) _ = _
                     simp only [Act.put, upL, i64_w, i32_w]
                     rfl
                    exact norm_ upZ (hJ0_3_7_12 (v520, v523, v529, gb534) _ ⟨hHeld, (upR HO524.out), (by (with_reducible repeat (first | apply Kd.R_alloc | apply Kd.R_drewN | apply Kd.R_drew)); exact Kd.R_mono HO530.out (fun _ hk => hk.2)), (upK BK517.out), (upK BK518.out), (upK BK534.out), GW534.out, GE534.out, NB517_534.out, NB534_517.out, NB518_534.out, NB534_518.out, (upB3 HB.out GE517.out GE518.out GE534.out)⟩)
                  ·
                   skip
                   rintro ⟨v520, v523, gb534⟩ w26 ⟨hS_, h0_, h1_, h2_, h3_, h4_, h5_, h6_, h7_, h8_, h9_, h10_⟩
                   have n0_ := sA h0_
                   have n1_ := sA h1_
                   have n2_ := sA h2_
                   have n3_ := sA h3_
                   have n4_ := sA h4_
                   have n5_ := sA h5_
                   have n6_ := sA h6_
                   have n7_ := sA h7_
                   have n8_ := sA h8_
                   have n9_ := sA h9_
                   have n10_ := sA h10_
                   clear BK517
                   clear BK518
                   clear HB
                   clear h0_ h1_ h2_ h3_ h4_ h5_ h6_ h7_ h8_ h9_ h10_
                   have HO524 := n0_
                   have BK517 := n1_
                   have BK518 := n2_
                   have BK534 := n3_
                   have GW534 := n4_
                   have GE534 := n5_
                   have NB517_534 := n6_
                   have NB534_517 := n7_
                   have NB518_534 := n8_
                   have NB534_518 := n9_
                   have HB := n10_
                   clear n0_ n1_ n2_ n3_ n4_ n5_ n6_ n7_ n8_ n9_ n10_
                   have hHeld : w26.cell? ⟨gb517, 0, none⟩ = some (.slice A0_0 l0_0.length c0_0) ∧ w26.cell? ⟨gb517, 1, none⟩ = some (.slice A0_1 l0_1.length c0_1) ∧ w26.cell? ⟨gb517, 2, none⟩ = some (.slice A0_2 l0_2.length c0_2) := hS_
                   refine norm_ (a' := ?_) ?_ ?_
                   rotate_left
                   ·
                    simp only [putAll, Act.put, upL]
                    rfl
                   refine two_ (i := 6) (j := 7) (Ni := some 18) (Nj := some 19) #[true, true, true, true, true, true, true, false, true, true, false, false, true, false] #[true, true, true, true, true, true, false, true, true, true, false, false, true, false] rfl rfl rfl rfl (two_of HT_.out (by kernel_rfl)) (by decide) (by decide) (fun K hK => ?_) (fun K hK => ?_)
                   ·
                    skip
                    refine goes_ Try.func32 (by kernel_rfl) rfl #[.slice A0_1 l0_1.length c0_1] (by rfl) rfl rfl upM ?_
                    with_reducible refine (kinkeepref35_Clone.calls k _ _ l0_1 t525 _ ?side1 ?side2 A7.out).mono ?_
                    (case side1 => exact upX (Kd.C_below HR0_1.out HB.out))
                    (case side2 => exact HC0_1.out)
                    rintro e w27 ⟨v526, rfl, ho0, hb⟩
                    refine ⟨_, rfl, ?_⟩
                    have n0_ := sA (Kd.R_below (upR HO524.out) hb)
                    have n1_ := sA (Kd.S_lower (Kd.S_new' ho0 (Kd.R_lt (upR HO524.out))) (below_size (upB3 HB.out GE517.out GE518.out GE534.out)))
                    have n2_ := sA (blk_below (g := gb517) (upK BK517.out) hb)
                    have n3_ := sA (blk_below (g := gb518) (upK BK518.out) hb)
                    have n4_ := sA (blk_below (g := gb534) (upK BK534.out) hb)
                    have n5_ := sA (below_step (upB3 HB.out GE517.out GE518.out GE534.out) hb)
                    clear HO524
                    clear BK517
                    clear BK518
                    clear BK534
                    clear HB
                    have HO524 := n0_
                    have HO527 := n1_
                    have BK517 := n2_
                    have BK518 := n3_
                    have BK534 := n4_
                    have HB := n5_
                    clear n0_ n1_ n2_ n3_ n4_ n5_
                    (try clear hb)
                    (try clear hb2)
                    (try clear hk)
                    (try clear hi)
                    (try clear ho0)
                    refine hK.out _ _ ⟨(blk_cell BK517.out 0).trans rfl, (blk_cell BK517.out 1).trans rfl, (blk_cell BK517.out 2).trans rfl⟩ (fun hHeld => ?_)
                    clear hK K
                    refine norm_ (a' := ?_) ?_ ?_
                    rotate_left
                    ·
                     show Act.put _ (some 18) _ = _
                     simp only [Act.put, upL, i64_w, i32_w]
                     rfl
                    exact norm_ upZ (hJ0_3_6_12 (v520, v523, v526, gb534) _ ⟨hHeld, (upR HO524.out), (by (with_reducible repeat (first | apply Kd.S_alloc | apply Kd.S_drewN | apply Kd.S_drew)); exact Kd.S_mono HO527.out (fun _ hk => hk.2)), (upK BK517.out), (upK BK518.out), (upK BK534.out), GW534.out, GE534.out, NB517_534.out, NB534_517.out, NB518_534.out, NB534_518.out, (upB3 HB.out GE517.out GE518.out GE534.out)⟩)
                   ·
                    skip
                    refine Kd.R_lit_step (Kd.int .i64) _ 3 ?hg (N := 19) ?hd (xs := ([] : List Int)) (inner := []) (ok := fun _ => True) (okp := fun _ => True) ?hr ?hp (fun _ hk => hk) trivial (Below.refl _ _) (Nat.le_refl _) (by simp) ?_; (case hd => rfl); (case hg => rfl); (case hr => first | (go_simp; done) | (go_simp; rfl)); (case hp => exact (Reps.none _ _))
                    intro v529 w27 ho28 hb hg_ hnew_
                    clear hg_ hnew_
                    (first | rw [← Ny528.out] at ho28 | (simp only [Int.reduceToNat] at ho28; rw [← Ny528.out] at ho28))
                    have n0_ := sA (Kd.R_elder' (upR HO524.out) (Kd.R_base ho28) hb)
                    have n1_ := sA (Kd.R_lower (Kd.R_new' ho28 (Kd.R_lt (upR HO524.out))) (below_size (upB3 HB.out GE517.out GE518.out GE534.out)))
                    have n2_ := sA (blk_below (g := gb517) (upK BK517.out) hb)
                    have n3_ := sA (blk_below (g := gb518) (upK BK518.out) hb)
                    have n4_ := sA (blk_below (g := gb534) (upK BK534.out) hb)
                    have n5_ := sA (below_step (upB3 HB.out GE517.out GE518.out GE534.out) hb)
                    clear HO524
                    clear BK517
                    clear BK518
                    clear BK534
                    clear HB
                    have HO524 := n0_
                    have HO530 := n1_
                    have BK517 := n2_
                    have BK518 := n3_
                    have BK534 := n4_
                    have HB := n5_
                    clear n0_ n1_ n2_ n3_ n4_ n5_
                    clear hb ho28
                    refine hK.out _ _ ⟨(blk_cell BK517.out 0).trans rfl, (blk_cell BK517.out 1).trans rfl, (blk_cell BK517.out 2).trans rfl⟩ (fun hHeld => ?_)
                    clear hK K
                    refine norm_ (a' := ?_) ?_ ?_
                    rotate_left
                    ·
                     show Act.put _ (some 19) _ = _
                     simp only [Act.put, upL, i64_w, i32_w]
                     rfl
                    exact norm_ upZ (hJ0_3_7_12 (v520, v523, v529, gb534) _ ⟨hHeld, (by (with_reducible repeat (first | apply Kd.R_alloc | apply Kd.R_drewN | apply Kd.R_drew)); exact Kd.R_mono HO524.out (fun _ hk => hk.2)), (by (with_reducible repeat (first | apply Kd.R_alloc | apply Kd.R_drewN | apply Kd.R_drew)); exact Kd.R_mono HO530.out (fun _ hk => hk.2)), (upK BK517.out), (upK BK518.out), (upK BK534.out), GW534.out, GE534.out, NB517_534.out, NB534_517.out, NB518_534.out, NB534_518.out, (upB3 HB.out GE517.out GE518.out GE534.out)⟩)
                 ·
                  skip
                  rintro ⟨v520, v523, v529⟩ w27 ⟨hS_, h0_, h1_, h2_, h3_, h4_⟩
                  have n0_ := sA h0_
                  have n1_ := sA h1_
                  have n2_ := sA h2_
                  have n3_ := sA h3_
                  have n4_ := sA h4_
                  clear BK517
                  clear BK518
                  clear HB
                  clear h0_ h1_ h2_ h3_ h4_
                  have HO524 := n0_
                  have HO530 := n1_
                  have BK517 := n2_
                  have BK518 := n3_
                  have HB := n4_
                  clear n0_ n1_ n2_ n3_ n4_
                  have hHeld : w27.cell? ⟨gb517, 0, none⟩ = some (.slice A0_0 l0_0.length c0_0) ∧ w27.cell? ⟨gb517, 1, none⟩ = some (.slice A0_1 l0_1.length c0_1) ∧ w27.cell? ⟨gb517, 2, none⟩ = some (.slice A0_2 l0_2.length c0_2) := hS_
                  refine norm_ (a' := ?_) ?_ ?_
                  rotate_left
                  ·
                   simp only [putAll, Act.put, upL]
                   rfl
                  refine two_ (i := 6) (j := 12) (Ni := some 18) (Nj := some 11) #[true, true, true, true, true, true, true, true, true, true, false, false, false, false] #[true, true, true, true, true, true, false, true, true, true, false, false, true, false] rfl rfl rfl rfl (two_of HT_.out (by kernel_rfl)) (by decide) (by decide) (fun K hK => ?_) (fun K hK => ?_)
                  ·
                   skip
                   refine goes_ Try.func32 (by kernel_rfl) rfl #[.slice A0_1 l0_1.length c0_1] (by rfl) rfl rfl upM ?_
                   with_reducible refine (kinkeepref35_Clone.calls k _ _ l0_1 t525 _ ?side1 ?side2 A7.out).mono ?_
                   (case side1 => exact upX (Kd.C_below HR0_1.out HB.out))
                   (case side2 => exact HC0_1.out)
                   rintro e w28 ⟨v526, rfl, ho0, hb⟩
                   refine ⟨_, rfl, ?_⟩
                   have n0_ := sA (Kd.R_below (upR HO524.out) hb)
                   have n1_ := sA (Kd.R_below (upR HO530.out) hb)
                   have n2_ := sA (Kd.S_lower (Kd.S_new' (Kd.S_new' ho0 (Kd.R_lt (upR HO524.out))) (Kd.R_lt (upR HO530.out))) (below_size (upB2 HB.out GE517.out GE518.out)))
                   have n3_ := sA (blk_below (g := gb517) (upK BK517.out) hb)
                   have n4_ := sA (blk_below (g := gb518) (upK BK518.out) hb)
                   have n5_ := sA (below_step (upB2 HB.out GE517.out GE518.out) hb)
                   clear HO524
                   clear HO530
                   clear BK517
                   clear BK518
                   clear HB
                   have HO524 := n0_
                   have HO530 := n1_
                   have HO527 := n2_
                   have BK517 := n3_
                   have BK518 := n4_
                   have HB := n5_
                   clear n0_ n1_ n2_ n3_ n4_ n5_
                   (try clear hb)
                   (try clear hb2)
                   (try clear hk)
                   (try clear hi)
                   (try clear ho0)
                   refine hK.out _ _ ⟨(blk_cell BK517.out 0).trans rfl, (blk_cell BK517.out 1).trans rfl, (blk_cell BK517.out 2).trans rfl⟩ (fun hHeld => ?_)
                   clear hK K
                   refine norm_ (a' := ?_) ?_ ?_
                   rotate_left
                   ·
                    show Act.put _ (some 18) _ = _
                    simp only [Act.put, upL, i64_w, i32_w]
                    rfl
                   exact norm_ upZ (hJ0_3_6_7 (v520, v523, v526, v529) _ ⟨hHeld, (upR HO524.out), (by (with_reducible repeat (first | apply Kd.S_alloc | apply Kd.S_drewN | apply Kd.S_drew)); exact Kd.S_mono HO527.out (fun _ hk => ⟨hk.1.2, hk.2⟩)), (upR HO530.out), (upK BK517.out), (upK BK518.out), (upB2 HB.out GE517.out GE518.out)⟩)
                  ·
                   skip
                   refine box_step ?hg (N := 11) ?hd (cs := #[.slice none 0 0, .slice none 0 0, .slice none 0 0]) (t := 75) ?hr ?_; (case hd => rfl); (case hg => rfl); (case hr => first | (go_simp; done) | (go_simp; rfl))
                   intro gb534 hg w28 hbox hb
                   have n0_ := sA (Kd.R_below (upR HO524.out) hb)
                   have n1_ := sA (Kd.R_below (upR HO530.out) hb)
                   have n2_ := sA (blk_below (g := gb517) (upK BK517.out) hb)
                   have n3_ := sA (blk_below (g := gb518) (upK BK518.out) hb)
                   have n4_ := sA (below_step (upB2 HB.out GE517.out GE518.out) hb)
                   have n5_ := sA (hbox)
                   have n6_ := sA ((by rw [hg]; exact (below_size (upB2 HB.out GE517.out GE518.out)) : w.heap.size ≤ gb534))
                   have n7_ := sA ((by rw [hg]; exact (below_size (upB2 HB.out GE517.out GE518.out)) : w.heap.size ≤ gb534))
                   have n8_ := sA ((by rw [hg]; exact Nat.ne_of_lt (blk_lt (g := gb517) (upK BK517.out)) : gb517 ≠ gb534))
                   have n9_ := sA ((by rw [hg]; exact Nat.ne_of_gt (blk_lt (g := gb517) (upK BK517.out)) : gb534 ≠ gb517))
                   have n10_ := sA ((by rw [hg]; exact Nat.ne_of_lt (blk_lt (g := gb518) (upK BK518.out)) : gb518 ≠ gb534))
                   have n11_ := sA ((by rw [hg]; exact Nat.ne_of_gt (blk_lt (g := gb518) (upK BK518.out)) : gb534 ≠ gb518))
                   clear HO524
                   clear HO530
                   clear BK517
                   clear BK518
                   clear HB
                   have HO524 := n0_
                   have HO530 := n1_
                   have BK517 := n2_
                   have BK518 := n3_
                   have HB := n4_
                   have BK534 := n5_
                   have GW534 := n6_
                   have GE534 := n7_
                   have NB517_534 := n8_
                   have NB534_517 := n9_
                   have NB518_534 := n10_
                   have NB534_518 := n11_
                   clear n0_ n1_ n2_ n3_ n4_ n5_ n6_ n7_ n8_ n9_ n10_ n11_
                   clear hb hbox hg
                   refine hK.out _ _ ⟨(blk_cell BK517.out 0).trans rfl, (blk_cell BK517.out 1).trans rfl, (blk_cell BK517.out 2).trans rfl⟩ (fun hHeld => ?_)
                   clear hK K
                   refine norm_ (a' := ?_) ?_ ?_
                   rotate_left
                   ·
                    show Act.put _ (some 11) _ = _
                    simp only [Act.put, upL, i64_w, i32_w]
                    rfl
                   exact norm_ upZ (hJ0_3_7_12 (v520, v523, v529, gb534) _ ⟨hHeld, (upR HO524.out), (upR HO530.out), (upK BK517.out), (upK BK518.out), (upK BK534.out), GW534.out, GE534.out, NB517_534.out, NB534_517.out, NB518_534.out, NB534_518.out, (upB3 HB.out GE517.out GE518.out GE534.out)⟩)
                ·
                 skip
                 rintro ⟨v520, v523, v526⟩ w26 ⟨hS_, h0_, h1_, h2_, h3_, h4_⟩
                 have n0_ := sA h0_
                 have n1_ := sA h1_
                 have n2_ := sA h2_
                 have n3_ := sA h3_
                 have n4_ := sA h4_
                 clear BK517
                 clear BK518
                 clear HB
                 clear h0_ h1_ h2_ h3_ h4_
                 have HO524 := n0_
                 have HO527 := n1_
                 have BK517 := n2_
                 have BK518 := n3_
                 have HB := n4_
                 clear n0_ n1_ n2_ n3_ n4_
                 have hHeld : w26.cell? ⟨gb517, 0, none⟩ = some (.slice A0_0 l0_0.length c0_0) ∧ w26.cell? ⟨gb517, 1, none⟩ = some (.slice A0_1 l0_1.length c0_1) ∧ w26.cell? ⟨gb517, 2, none⟩ = some (.slice A0_2 l0_2.length c0_2) := hS_
                 refine norm_ (a' := ?_) ?_ ?_
                 rotate_left
                 ·
                  simp only [putAll, Act.put, upL]
                  rfl
                 refine two_ (i := 7) (j := 12) (Ni := some 19) (Nj := some 11) #[true, true, true, true, true, true, true, true, true, true, false, false, false, false] #[true, true, true, true, true, true, true, false, true, true, false, false, true, false] rfl rfl rfl rfl (two_of HT_.out (by kernel_rfl)) (by decide) (by decide) (fun K hK => ?_) (fun K hK => ?_)
                 ·
                  skip
                  refine Kd.R_lit_step (Kd.int .i64) _ 3 ?hg (N := 19) ?hd (xs := ([] : List Int)) (inner := []) (ok := fun _ => True) (okp := fun _ => True) ?hr ?hp (fun _ hk => hk) trivial (Below.refl _ _) (Nat.le_refl _) (by simp) ?_; (case hd => rfl); (case hg => rfl); (case hr => first | (go_simp; done) | (go_simp; rfl)); (case hp => exact (Reps.none _ _))
                  intro v529 w27 ho28 hb hg_ hnew_
                  clear hg_ hnew_
                  (first | rw [← Ny528.out] at ho28 | (simp only [Int.reduceToNat] at ho28; rw [← Ny528.out] at ho28))
                  have n0_ := sA (Kd.R_elder' (upR HO524.out) (Kd.R_base ho28) hb)
                  have n1_ := sA (Kd.S_elder' (upS HO527.out) (Kd.R_base ho28) hb)
                  have n2_ := sA (Kd.R_lower (Kd.R_new' ho28 (Kd.R_lt (upR HO524.out))) (below_size (upB2 HB.out GE517.out GE518.out)))
                  have n3_ := sA (blk_below (g := gb517) (upK BK517.out) hb)
                  have n4_ := sA (blk_below (g := gb518) (upK BK518.out) hb)
                  have n5_ := sA (below_step (upB2 HB.out GE517.out GE518.out) hb)
                  clear HO524
                  clear HO527
                  clear BK517
                  clear BK518
                  clear HB
                  have HO524 := n0_
                  have HO527 := n1_
                  have HO530 := n2_
                  have BK517 := n3_
                  have BK518 := n4_
                  have HB := n5_
                  clear n0_ n1_ n2_ n3_ n4_ n5_
                  clear hb ho28
                  refine hK.out _ _ ⟨(blk_cell BK517.out 0).trans rfl, (blk_cell BK517.out 1).trans rfl, (blk_cell BK517.out 2).trans rfl⟩ (fun hHeld => ?_)
                  clear hK K
                  refine norm_ (a' := ?_) ?_ ?_
                  rotate_left
                  ·
                   show Act.put _ (some 19) _ = _
                   simp only [Act.put, upL, i64_w, i32_w]
                   rfl
                  exact norm_ upZ (hJ0_3_6_7 (v520, v523, v526, v529) _ ⟨hHeld, (by (with_reducible repeat (first | apply Kd.R_alloc | apply Kd.R_drewN | apply Kd.R_drew)); exact Kd.R_mono HO524.out (fun _ hk => hk.2)), (upS HO527.out), (by (with_reducible repeat (first | apply Kd.R_alloc | apply Kd.R_drewN | apply Kd.R_drew)); exact Kd.R_mono HO530.out (fun _ hk => hk.2)), (upK BK517.out), (upK BK518.out), (upB2 HB.out GE517.out GE518.out)⟩)
                 ·
                  skip
                  refine box_step ?hg (N := 11) ?hd (cs := #[.slice none 0 0, .slice none 0 0, .slice none 0 0]) (t := 75) ?hr ?_; (case hd => rfl); (case hg => rfl); (case hr => first | (go_simp; done) | (go_simp; rfl))
                  intro gb534 hg w27 hbox hb
                  have n0_ := sA (Kd.R_below (upR HO524.out) hb)
                  have n1_ := sA (Kd.S_below (upS HO527.out) hb)
                  have n2_ := sA (blk_below (g := gb517) (upK BK517.out) hb)
                  have n3_ := sA (blk_below (g := gb518) (upK BK518.out) hb)
                  have n4_ := sA (below_step (upB2 HB.out GE517.out GE518.out) hb)
                  have n5_ := sA (hbox)
                  have n6_ := sA ((by rw [hg]; exact (below_size (upB2 HB.out GE517.out GE518.out)) : w.heap.size ≤ gb534))
                  have n7_ := sA ((by rw [hg]; exact (below_size (upB2 HB.out GE517.out GE518.out)) : w.heap.size ≤ gb534))
                  have n8_ := sA ((by rw [hg]; exact Nat.ne_of_lt (blk_lt (g := gb517) (upK BK517.out)) : gb517 ≠ gb534))
                  have n9_ := sA ((by rw [hg]; exact Nat.ne_of_gt (blk_lt (g := gb517) (upK BK517.out)) : gb534 ≠ gb517))
                  have n10_ := sA ((by rw [hg]; exact Nat.ne_of_lt (blk_lt (g := gb518) (upK BK518.out)) : gb518 ≠ gb534))
                  have n11_ := sA ((by rw [hg]; exact Nat.ne_of_gt (blk_lt (g := gb518) (upK BK518.out)) : gb534 ≠ gb518))
                  clear HO524
                  clear HO527
                  clear BK517
                  clear BK518
                  clear HB
                  have HO524 := n0_
                  have HO527 := n1_
                  have BK517 := n2_
                  have BK518 := n3_
                  have HB := n4_
                  have BK534 := n5_
                  have GW534 := n6_
                  have GE534 := n7_
                  have NB517_534 := n8_
                  have NB534_517 := n9_
                  have NB518_534 := n10_
                  have NB534_518 := n11_
                  clear n0_ n1_ n2_ n3_ n4_ n5_ n6_ n7_ n8_ n9_ n10_ n11_
                  clear hb hbox hg
                  refine hK.out _ _ ⟨(blk_cell BK517.out 0).trans rfl, (blk_cell BK517.out 1).trans rfl, (blk_cell BK517.out 2).trans rfl⟩ (fun hHeld => ?_)
                  clear hK K
                  refine norm_ (a' := ?_) ?_ ?_
                  rotate_left
                  ·
                   show Act.put _ (some 11) _ = _
                   simp only [Act.put, upL, i64_w, i32_w]
                   rfl
                  exact norm_ upZ (hJ0_3_6_12 (v520, v523, v526, gb534) _ ⟨hHeld, (upR HO524.out), (upS HO527.out), (upK BK517.out), (upK BK518.out), (upK BK534.out), GW534.out, GE534.out, NB517_534.out, NB534_517.out, NB518_534.out, NB534_518.out, (upB3 HB.out GE517.out GE518.out GE534.out)⟩)
               ·
                skip
                rintro ⟨v520, v523, v529, gb534⟩ w28 ⟨hS_, h0_, h1_, h2_, h3_, h4_, h5_, h6_, h7_, h8_, h9_, h10_, h11_⟩
                have n0_ := sA h0_
                have n1_ := sA h1_
                have n2_ := sA h2_
                have n3_ := sA h3_
                have n4_ := sA h4_
                have n5_ := sA h5_
                have n6_ := sA h6_
                have n7_ := sA h7_
                have n8_ := sA h8_
                have n9_ := sA h9_
                have n10_ := sA h10_
                have n11_ := sA h11_
                clear BK517
                clear BK518
                clear HB
                clear h0_ h1_ h2_ h3_ h4_ h5_ h6_ h7_ h8_ h9_ h10_ h11_
                have HO524 := n0_
                have HO530 := n1_
                have BK517 := n2_
                have BK518 := n3_
                have BK534 := n4_
                have GW534 := n5_
                have GE534 := n6_
                have NB517_534 := n7_
                have NB534_517 := n8_
                have NB518_534 := n9_
                have NB534_518 := n10_
                have HB := n11_
                clear n0_ n1_ n2_ n3_ n4_ n5_ n6_ n7_ n8_ n9_ n10_ n11_
                have hHeld : w28.cell? ⟨gb517, 0, none⟩ = some (.slice A0_0 l0_0.length c0_0) ∧ w28.cell? ⟨gb517, 1, none⟩ = some (.slice A0_1 l0_1.length c0_1) ∧ w28.cell? ⟨gb517, 2, none⟩ = some (.slice A0_2 l0_2.length c0_2) := hS_
                refine norm_ (a' := ?_) ?_ ?_
                rotate_left
                ·
                 simp only [putAll, Act.put, upL]
                 rfl
                refine one_ (i := 6) (N := some 18) #[true, true, true, true, true, true, true, true, true, true, false, false, true, false] rfl rfl (one_of HT_.out (by kernel_rfl)) (by decide) (fun K hK => ?_)
                refine goes_ Try.func32 (by kernel_rfl) rfl #[.slice A0_1 l0_1.length c0_1] (by rfl) rfl rfl upM ?_
                with_reducible refine (kinkeepref35_Clone.calls k _ _ l0_1 t525 _ ?side1 ?side2 A7.out).mono ?_
                (case side1 => exact upX (Kd.C_below HR0_1.out HB.out))
                (case side2 => exact HC0_1.out)
                rintro e w29 ⟨v526, rfl, ho0, hb⟩
                refine ⟨_, rfl, ?_⟩
                have n0_ := sA (Kd.R_below (upR HO524.out) hb)
                have n1_ := sA (Kd.R_below (upR HO530.out) hb)
                have n2_ := sA (Kd.S_lower (Kd.S_new' (Kd.S_new' ho0 (Kd.R_lt (upR HO524.out))) (Kd.R_lt (upR HO530.out))) (below_size (upB3 HB.out GE517.out GE518.out GE534.out)))
                have n3_ := sA (blk_below (g := gb517) (upK BK517.out) hb)
                have n4_ := sA (blk_below (g := gb518) (upK BK518.out) hb)
                have n5_ := sA (blk_below (g := gb534) (upK BK534.out) hb)
                have n6_ := sA (below_step (upB3 HB.out GE517.out GE518.out GE534.out) hb)
                clear HO524
                clear HO530
                clear BK517
                clear BK518
                clear BK534
                clear HB
                have HO524 := n0_
                have HO530 := n1_
                have HO527 := n2_
                have BK517 := n3_
                have BK518 := n4_
                have BK534 := n5_
                have HB := n6_
                clear n0_ n1_ n2_ n3_ n4_ n5_ n6_
                (try clear hb)
                (try clear hb2)
                (try clear hk)
                (try clear hi)
                (try clear ho0)
                refine hK.out _ _ ⟨(blk_cell BK517.out 0).trans rfl, (blk_cell BK517.out 1).trans rfl, (blk_cell BK517.out 2).trans rfl⟩ (fun hHeld => ?_)
                clear hK K
                refine norm_ (a' := ?_) ?_ ?_
                rotate_left
                ·
                 show Act.put _ (some 18) _ = _
                 simp only [Act.put, upL, i64_w, i32_w]
                 rfl
                exact norm_ upZ (hJ0_3_6_7_12 (v520, v523, v526, v529, gb534) _ ⟨hHeld, (upR HO524.out), (by (with_reducible repeat (first | apply Kd.S_alloc | apply Kd.S_drewN | apply Kd.S_drew)); exact Kd.S_mono HO527.out (fun _ hk => ⟨hk.1.2, hk.2⟩)), (upR HO530.out), (upK BK517.out), (upK BK518.out), (upK BK534.out), GW534.out, GE534.out, NB517_534.out, NB534_517.out, NB518_534.out, NB534_518.out, (upB3 HB.out GE517.out GE518.out GE534.out)⟩)
              ·
               skip
               rintro ⟨v520, v523, v526, gb534⟩ w27 ⟨hS_, h0_, h1_, h2_, h3_, h4_, h5_, h6_, h7_, h8_, h9_, h10_, h11_⟩
               have n0_ := sA h0_
               have n1_ := sA h1_
               have n2_ := sA h2_
               have n3_ := sA h3_
               have n4_ := sA h4_
               have n5_ := sA h5_
               have n6_ := sA h6_
               have n7_ := sA h7_
               have n8_ := sA h8_
               have n9_ := sA h9_
               have n10_ := sA h10_
               have n11_ := sA h11_
               clear BK517
               clear BK518
               clear HB
               clear h0_ h1_ h2_ h3_ h4_ h5_ h6_ h7_ h8_ h9_ h10_ h11_
               have HO524 := n0_
               have HO527 := n1_
               have BK517 := n2_
               have BK518 := n3_
               have BK534 := n4_
               have GW534 := n5_
               have GE534 := n6_
               have NB517_534 := n7_
               have NB534_517 := n8_
               have NB518_534 := n9_
               have NB534_518 := n10_
               have HB := n11_
               clear n0_ n1_ n2_ n3_ n4_ n5_ n6_ n7_ n8_ n9_ n10_ n11_
               have hHeld : w27.cell? ⟨gb517, 0, none⟩ = some (.slice A0_0 l0_0.length c0_0) ∧ w27.cell? ⟨gb517, 1, none⟩ = some (.slice A0_1 l0_1.length c0_1) ∧ w27.cell? ⟨gb517, 2, none⟩ = some (.slice A0_2 l0_2.length c0_2) := hS_
               refine norm_ (a' := ?_) ?_ ?_
               rotate_left
               ·
                simp only [putAll, Act.put, upL]
                rfl
               refine one_ (i := 7) (N := some 19) #[true, true, true, true, true, true, true, true, true, true, false, false, true, false] rfl rfl (one_of HT_.out (by kernel_rfl)) (by decide) (fun K hK => ?_)
               refine Kd.R_lit_step (Kd.int .i64) _ 3 ?hg (N := 19) ?hd (xs := ([] : List Int)) (inner := []) (ok := fun _ => True) (okp := fun _ => True) ?hr ?hp (fun _ hk => hk) trivial (Below.refl _ _) (Nat.le_refl _) (by simp) ?_; (case hd => rfl); (case hg => rfl); (case hr => first | (go_simp; done) | (go_simp; rfl)); (case hp => exact (Reps.none _ _))
               intro v529 w28 ho29 hb hg_ hnew_
               clear hg_ hnew_
               (first | rw [← Ny528.out] at ho29 | (simp only [Int.reduceToNat] at ho29; rw [← Ny528.out] at ho29))
               have n0_ := sA (Kd.R_elder' (upR HO524.out) (Kd.R_base ho29) hb)
               have n1_ := sA (Kd.S_elder' (upS HO527.out) (Kd.R_base ho29) hb)
               have n2_ := sA (Kd.R_lower (Kd.R_new' ho29 (Kd.R_lt (upR HO524.out))) (below_size (upB3 HB.out GE517.out GE518.out GE534.out)))
               have n3_ := sA (blk_below (g := gb517) (upK BK517.out) hb)
               have n4_ := sA (blk_below (g := gb518) (upK BK518.out) hb)
               have n5_ := sA (blk_below (g := gb534) (upK BK534.out) hb)
               have n6_ := sA (below_step (upB3 HB.out GE517.out GE518.out GE534.out) hb)
               clear HO524
               clear HO527
               clear BK517
               clear BK518
               clear BK534
               clear HB
               have HO524 := n0_
               have HO527 := n1_
               have HO530 := n2_
               have BK517 := n3_
               have BK518 := n4_
               have BK534 := n5_
               have HB := n6_
               clear n0_ n1_ n2_ n3_ n4_ n5_ n6_
               clear hb ho29
               refine hK.out _ _ ⟨(blk_cell BK517.out 0).trans rfl, (blk_cell BK517.out 1).trans rfl, (blk_cell BK517.out 2).trans rfl⟩ (fun hHeld => ?_)
               clear hK K
               refine norm_ (a' := ?_) ?_ ?_
               rotate_left
               ·
                show Act.put _ (some 19) _ = _
                simp only [Act.put, upL, i64_w, i32_w]
                rfl
               exact norm_ upZ (hJ0_3_6_7_12 (v520, v523, v526, v529, gb534) _ ⟨hHeld, (by (with_reducible repeat (first | apply Kd.R_alloc | apply Kd.R_drewN | apply Kd.R_drew)); exact Kd.R_mono HO524.out (fun _ hk => hk.2)), (upS HO527.out), (by (with_reducible repeat (first | apply Kd.R_alloc | apply Kd.R_drewN | apply Kd.R_drew)); exact Kd.R_mono HO530.out (fun _ hk => hk.2)), (upK BK517.out), (upK BK518.out), (upK BK534.out), GW534.out, GE534.out, NB517_534.out, NB534_517.out, NB518_534.out, NB534_518.out, (upB3 HB.out GE517.out GE518.out GE534.out)⟩)
             ·
              skip
              rintro ⟨v520, v523, v526, v529⟩ w28 ⟨hS_, h0_, h1_, h2_, h3_, h4_, h5_⟩
              have n0_ := sA h0_
              have n1_ := sA h1_
              have n2_ := sA h2_
              have n3_ := sA h3_
              have n4_ := sA h4_
              have n5_ := sA h5_
              clear BK517
              clear BK518
              clear HB
              clear h0_ h1_ h2_ h3_ h4_ h5_
              have HO524 := n0_
              have HO527 := n1_
              have HO530 := n2_
              have BK517 := n3_
              have BK518 := n4_
              have HB := n5_
              clear n0_ n1_ n2_ n3_ n4_ n5_
              have hHeld : w28.cell? ⟨gb517, 0, none⟩ = some (.slice A0_0 l0_0.length c0_0) ∧ w28.cell? ⟨gb517, 1, none⟩ = some (.slice A0_1 l0_1.length c0_1) ∧ w28.cell? ⟨gb517, 2, none⟩ = some (.slice A0_2 l0_2.length c0_2) := hS_
              refine norm_ (a' := ?_) ?_ ?_
              rotate_left
              ·
               simp only [putAll, Act.put, upL]
               rfl
              refine two_ (i := 10) (j := 12) (Ni := some 22) (Nj := some 11) #[true, true, true, true, true, true, true, true, true, true, true, false, false, false] #[true, true, true, true, true, true, true, true, true, true, false, false, true, false] rfl rfl rfl rfl (two_of HT_.out (by kernel_rfl)) (by decide) (by decide) (fun K hK => ?_) (fun K hK => ?_)
              ·
               skip
               refine Kd.R_append_rows_step (Kd.int .i64) (w0 := w) w.heap.size (by rfl) (.tmp 19) (.tmp 21) 31 3 (.int .i64 0) 8 rfl Try.underlying31 info3 rfl (by decide) (by omega) v529 y528 l0_2 _ _ _ (fun k_ => some k_ ≠ (v523 : Value).ownBlock) (fun _ => False) rfl rfl ?aO ?aR (fun _ _ h => h) (fun _ h => h.elim) ?aF ?aB ?aS ?aL ?_
               (case aR => exact upX (Kd.C_below HR0_2.out HB.out))
               (case aB => exact (upB2 HB.out GE517.out GE518.out))
               (case aF => exact (fun k_ hk => Kd.fresh' (Kd.R_lt (upR HO524.out)) k_ hk))
               (case aO => exact (upR HO530.out))
               (case aS => exact (below_size (upB2 HB.out GE517.out GE518.out)))
               (case aL => have := LMc8.out; omega)
               intro v532 w29 ho hb hg hat
               rw [← Ny531.out] at ho
               have n0_ := sA (blk_grown (g := gb517) (upK BK517.out) hg (Kd.R_ne HO530.out BK517.out (by decide)))
               have n1_ := sA (blk_grown (g := gb518) (upK BK518.out) hg (Kd.R_ne HO530.out BK518.out (by decide)))
               have n2_ := sA (Kd.R_after (ok := (fun _ => True)) (by (with_reducible repeat (first | apply Kd.R_alloc | apply Kd.R_drewN | apply Kd.R_drew)); exact Kd.R_mono HO524.out (fun _ hk => ⟨trivial, hk⟩)) hg hat)
               have n3_ := sA (Kd.S_after (ok := (fun k_ => some k_ ≠ (v523 : Value).ownBlock)) (upS HO527.out) hg hat)
               have n4_ := sA (hb)
               have n5_ := sA (ho)
               clear BK517
               clear BK518
               clear HO524
               clear HO527
               clear HB
               clear HO530
               have BK517 := n0_
               have BK518 := n1_
               have HO524 := n2_
               have HO527 := n3_
               have HB := n4_
               have HO533 := n5_
               clear n0_ n1_ n2_ n3_ n4_ n5_
               clear ho hb hg hat
               obtain ⟨Ao30, co30, eo30⟩ := Kd.R_slice HO533.out
               (first | subst eo30 | (injection eo30 with f1_ f2_ f3_; have f4_ := f1_.symm; have f5_ := f3_.symm; clear f1_ f2_ f3_; subst f4_; subst f5_))
               obtain ⟨Ao31, co31, eo31⟩ := Kd.S_slice HO527.out
               (first | subst eo31 | (injection eo31 with f1_ f2_ f3_; have f4_ := f1_.symm; have f5_ := f3_.symm; clear f1_ f2_ f3_; subst f4_; subst f5_))
               obtain ⟨Ao32, co32, eo32⟩ := Kd.R_slice HO524.out
               (first | subst eo32 | (injection eo32 with f1_ f2_ f3_; have f4_ := f1_.symm; have f5_ := f3_.symm; clear f1_ f2_ f3_; subst f4_; subst f5_))
               refine hK.out _ _ ⟨(blk_cell BK517.out 0).trans rfl, (blk_cell BK517.out 1).trans rfl, (blk_cell BK517.out 2).trans rfl⟩ (fun hHeld => ?_)
               clear hK K
               refine norm_ (a' := ?_) ?_ ?_
               rotate_left
               ·
                show Act.put _ (some 22) _ = _
                simp only [Act.put, upL, i64_w, i32_w]
                rfl
               refine pure_ (i := 11) (N := some 23) (v := ?_) (a' := ?_) #[true, true, true, true, true, true, true, true, true, true, true, true, false, false] rfl rfl (any_of HT_.out (by kernel_rfl)) (fun _ _ _ h => h) (Or.inl ⟨by rfl, ?_⟩) ?_ ?_
               rotate_left
               ·
                intro w'
                go_simp
                with_reducible rfl
               rotate_left
               ·
                simp only [Act.put, upL, i64_w, i32_w]
                rfl
               exact norm_ upZ (hJ0_3_6_7_10 (v520, .slice Ao32 y522.length co32, .slice Ao31 t525.length co31, v529, .slice Ao30 y531.length co30) _ ⟨hHeld, (by (with_reducible repeat (first | apply Kd.R_alloc | apply Kd.R_drewN | apply Kd.R_drew)); exact Kd.R_mono HO524.out (fun _ hk => hk.2)), (upS HO527.out), (upR HO533.out), (upK BK517.out), (upK BK518.out), (upB2 HB.out GE517.out GE518.out)⟩)
              ·
               skip
               refine box_step ?hg (N := 11) ?hd (cs := #[.slice none 0 0, .slice none 0 0, .slice none 0 0]) (t := 75) ?hr ?_; (case hd => rfl); (case hg => rfl); (case hr => first | (go_simp; done) | (go_simp; rfl))
               intro gb534 hg w29 hbox hb
               have n0_ := sA (Kd.R_below (upR HO524.out) hb)
               have n1_ := sA (Kd.S_below (upS HO527.out) hb)
               have n2_ := sA (Kd.R_below (upR HO530.out) hb)
               have n3_ := sA (blk_below (g := gb517) (upK BK517.out) hb)
               have n4_ := sA (blk_below (g := gb518) (upK BK518.out) hb)
               have n5_ := sA (below_step (upB2 HB.out GE517.out GE518.out) hb)
               have n6_ := sA (hbox)
               have n7_ := sA ((by rw [hg]; exact (below_size (upB2 HB.out GE517.out GE518.out)) : w.heap.size ≤ gb534))
               have n8_ := sA ((by rw [hg]; exact (below_size (upB2 HB.out GE517.out GE518.out)) : w.heap.size ≤ gb534))
               have n9_ := sA ((by rw [hg]; exact Nat.ne_of_lt (blk_lt (g := gb517) (upK BK517.out)) : gb517 ≠ gb534))
               have n10_ := sA ((by rw [hg]; exact Nat.ne_of_gt (blk_lt (g := gb517) (upK BK517.out)) : gb534 ≠ gb517))
               have n11_ := sA ((by rw [hg]; exact Nat.ne_of_lt (blk_lt (g := gb518) (upK BK518.out)) : gb518 ≠ gb534))
               have n12_ := sA ((by rw [hg]; exact Nat.ne_of_gt (blk_lt (g := gb518) (upK BK518.out)) : gb534 ≠ gb518))
               clear HO524
               clear HO527
               clear HO530
               clear BK517
               clear BK518
               clear HB
               have HO524 := n0_
               have HO527 := n1_
               have HO530 := n2_
               have BK517 := n3_
               have BK518 := n4_
               have HB := n5_
               have BK534 := n6_
               have GW534 := n7_
               have GE534 := n8_
               have NB517_534 := n9_
               have NB534_517 := n10_
               have NB518_534 := n11_
               have NB534_518 := n12_
               clear n0_ n1_ n2_ n3_ n4_ n5_ n6_ n7_ n8_ n9_ n10_ n11_ n12_
               clear hb hbox hg
               refine hK.out _ _ ⟨(blk_cell BK517.out 0).trans rfl, (blk_cell BK517.out 1).trans rfl, (blk_cell BK517.out 2).trans rfl⟩ (fun hHeld => ?_)
               clear hK K
               refine norm_ (a' := ?_) ?_ ?_
               rotate_left
               ·
                show Act.put _ (some 11) _ = _
                simp only [Act.put, upL, i64_w, i32_w]
                rfl
               exact norm_ upZ (hJ0_3_6_7_12 (v520, v523, v526, v529, gb534) _ ⟨hHeld, (upR HO524.out), (upS HO527.out), (upR HO530.out), (upK BK517.out), (upK BK518.out), (upK BK534.out), GW534.out, GE534.out, NB517_534.out, NB534_517.out, NB518_534.out, NB534_518.out, (upB3 HB.out GE517.out GE518.out GE534.out)⟩)
            ·
             skip
             rintro ⟨v520, v523, v526, v529, gb534⟩ w29 ⟨hS_, h0_, h1_, h2_, h3_, h4_, h5_, h6_, h7_, h8_, h9_, h10_, h11_, h12_⟩
             have n0_ := sA h0_
             have n1_ := sA h1_
             have n2_ := sA h2_
             have n3_ := sA h3_
             have n4_ := sA h4_
             have n5_ := sA h5_
             have n6_ := sA h6_
             have n7_ := sA h7_
             have n8_ := sA h8_
             have n9_ := sA h9_
             have n10_ := sA h10_
             have n11_ := sA h11_
             have n12_ := sA h12_
             clear BK517
             clear BK518
             clear HB
             clear h0_ h1_ h2_ h3_ h4_ h5_ h6_ h7_ h8_ h9_ h10_ h11_ h12_
             have HO524 := n0_
             have HO527 := n1_
             have HO530 := n2_
             have BK517 := n3_
             have BK518 := n4_
             have BK534 := n5_
             have GW534 := n6_
             have GE534 := n7_
             have NB517_534 := n8_
             have NB534_517 := n9_
             have NB518_534 := n10_
             have NB534_518 := n11_
             have HB := n12_
             clear n0_ n1_ n2_ n3_ n4_ n5_ n6_ n7_ n8_ n9_ n10_ n11_ n12_
             have hHeld : w29.cell? ⟨gb517, 0, none⟩ = some (.slice A0_0 l0_0.length c0_0) ∧ w29.cell? ⟨gb517, 1, none⟩ = some (.slice A0_1 l0_1.length c0_1) ∧ w29.cell? ⟨gb517, 2, none⟩ = some (.slice A0_2 l0_2.length c0_2) := hS_
             refine norm_ (a' := ?_) ?_ ?_
             rotate_left
             ·
              simp only [putAll, Act.put, upL]
              rfl
             refine one_ (i := 10) (N := some 22) #[true, true, true, true, true, true, true, true, true, true, true, false, true, false] rfl rfl (one_of HT_.out (by kernel_rfl)) (by decide) (fun K hK => ?_)
             refine Kd.R_append_rows_step (Kd.int .i64) (w0 := w) w.heap.size (by rfl) (.tmp 19) (.tmp 21) 31 3 (.int .i64 0) 8 rfl Try.underlying31 info3 rfl (by decide) (by omega) v529 y528 l0_2 _ _ _ (fun k_ => some k_ ≠ (v523 : Value).ownBlock) (fun _ => False) rfl rfl ?aO ?aR (fun _ _ h => h) (fun _ h => h.elim) ?aF ?aB ?aS ?aL ?_
             (case aR => exact upX (Kd.C_below HR0_2.out HB.out))
             (case aB => exact (upB3 HB.out GE517.out GE518.out GE534.out))
             (case aF => exact (fun k_ hk => Kd.fresh' (Kd.R_lt (upR HO524.out)) k_ hk))
             (case aO => exact (upR HO530.out))
             (case aS => exact (below_size (upB3 HB.out GE517.out GE518.out GE534.out)))
             (case aL => have := LMc8.out; omega)
             intro v532 w30 ho hb hg hat
             rw [← Ny531.out] at ho
             have n0_ := sA (blk_grown (g := gb517) (upK BK517.out) hg (Kd.R_ne HO530.out BK517.out (by decide)))
             have n1_ := sA (blk_grown (g := gb518) (upK BK518.out) hg (Kd.R_ne HO530.out BK518.out (by decide)))
             have n2_ := sA (Kd.R_after (ok := (fun _ => True)) (by (with_reducible repeat (first | apply Kd.R_alloc | apply Kd.R_drewN | apply Kd.R_drew)); exact Kd.R_mono HO524.out (fun _ hk => ⟨trivial, hk⟩)) hg hat)
             have n3_ := sA (Kd.S_after (ok := (fun k_ => some k_ ≠ (v523 : Value).ownBlock)) (upS HO527.out) hg hat)
             have n4_ := sA (blk_grown (g := gb534) (upK BK534.out) hg (Kd.R_ne HO530.out BK534.out (by decide)))
             have n5_ := sA (hb)
             have n6_ := sA (ho)
             clear BK517
             clear BK518
             clear HO524
             clear HO527
             clear BK534
             clear HB
             clear HO530
             have BK517 := n0_
             have BK518 := n1_
             have HO524 := n2_
             have HO527 := n3_
             have BK534 := n4_
             have HB := n5_
             have HO533 := n6_
             clear n0_ n1_ n2_ n3_ n4_ n5_ n6_
             clear ho hb hg hat
             obtain ⟨Ao31, co31, eo31⟩ := Kd.R_slice HO533.out
             (first | subst eo31 | (injection eo31 with f1_ f2_ f3_; have f4_ := f1_.symm; have f5_ := f3_.symm; clear f1_ f2_ f3_; subst f4_; subst f5_))
             obtain ⟨Ao32, co32, eo32⟩ := Kd.S_slice HO527.out
             (first | subst eo32 | (injection eo32 with f1_ f2_ f3_; have f4_ := f1_.symm; have f5_ := f3_.symm; clear f1_ f2_ f3_; subst f4_; subst f5_))
             obtain ⟨Ao33, co33, eo33⟩ := Kd.R_slice HO524.out
             (first | subst eo33 | (injection eo33 with f1_ f2_ f3_; have f4_ := f1_.symm; have f5_ := f3_.symm; clear f1_ f2_ f3_; subst f4_; subst f5_))
             refine hK.out _ _ ⟨(blk_cell BK517.out 0).trans rfl, (blk_cell BK517.out 1).trans rfl, (blk_cell BK517.out 2).trans rfl⟩ (fun hHeld => ?_)
             clear hK K
             refine norm_ (a' := ?_) ?_ ?_
             rotate_left
             ·
              show Act.put _ (some 22) _ = _
              simp only [Act.put, upL, i64_w, i32_w]
              rfl
             refine pure_ (i := 11) (N := some 23) (v := ?_) (a' := ?_) #[true, true, true, true, true, true, true, true, true, true, true, true, true, false] rfl rfl (any_of HT_.out (by kernel_rfl)) (fun _ _ _ h => h) (Or.inl ⟨by rfl, ?_⟩) ?_ ?_
             rotate_left
             ·
              intro w'
              go_simp
              with_reducible rfl
             rotate_left
             ·
              simp only [Act.put, upL, i64_w, i32_w]
              rfl
             exact norm_ upZ (hJ0_3_6_7_10_12 (v520, .slice Ao33 y522.length co33, .slice Ao32 t525.length co32, v529, .slice Ao31 y531.length co31, gb534) _ ⟨hHeld, (by (with_reducible repeat (first | apply Kd.R_alloc | apply Kd.R_drewN | apply Kd.R_drew)); exact Kd.R_mono HO524.out (fun _ hk => hk.2)), (upS HO527.out), (upR HO533.out), (upK BK517.out), (upK BK518.out), (upK BK534.out), GW534.out, GE534.out, NB517_534.out, NB534_517.out, NB518_534.out, NB534_518.out, (upB3 HB.out GE517.out GE518.out GE534.out)⟩)
           ·
            skip
            rintro ⟨v520, v523, v526, v529, v532⟩ w32 ⟨hS_, h0_, h1_, h2_, h3_, h4_, h5_⟩
            have n0_ := sA h0_
            have n1_ := sA h1_
            have n2_ := sA h2_
            have n3_ := sA h3_
            have n4_ := sA h4_
            have n5_ := sA h5_
            clear BK517
            clear BK518
            clear HB
            clear h0_ h1_ h2_ h3_ h4_ h5_
            have HO524 := n0_
            have HO527 := n1_
            have HO533 := n2_
            have BK517 := n3_
            have BK518 := n4_
            have HB := n5_
            clear n0_ n1_ n2_ n3_ n4_ n5_
            have hHeld : w32.cell? ⟨gb517, 0, none⟩ = some (.slice A0_0 l0_0.length c0_0) ∧ w32.cell? ⟨gb517, 1, none⟩ = some (.slice A0_1 l0_1.length c0_1) ∧ w32.cell? ⟨gb517, 2, none⟩ = some (.slice A0_2 l0_2.length c0_2) := hS_
            obtain ⟨Ao33, co33, eo33⟩ := Kd.R_slice HO533.out
            (first | subst eo33 | (injection eo33 with f1_ f2_ f3_; have f4_ := f1_.symm; have f5_ := f3_.symm; clear f1_ f2_ f3_; subst f4_; subst f5_))
            obtain ⟨Ao34, co34, eo34⟩ := Kd.S_slice HO527.out
            (first | subst eo34 | (injection eo34 with f1_ f2_ f3_; have f4_ := f1_.symm; have f5_ := f3_.symm; clear f1_ f2_ f3_; subst f4_; subst f5_))
            obtain ⟨Ao35, co35, eo35⟩ := Kd.R_slice HO524.out
            (first | subst eo35 | (injection eo35 with f1_ f2_ f3_; have f4_ := f1_.symm; have f5_ := f3_.symm; clear f1_ f2_ f3_; subst f4_; subst f5_))
            refine norm_ (a' := ?_) ?_ ?_
            rotate_left
            ·
             simp only [putAll, Act.put, upL]
             rfl
            refine one_ (i := 12) (N := some 11) #[true, true, true, true, true, true, true, true, true, true, true, true, true, false] rfl rfl (one_of HT_.out (by kernel_rfl)) (by decide) (fun K hK => ?_)
            refine box_step ?hg (N := 11) ?hd (cs := #[.slice none 0 0, .slice none 0 0, .slice none 0 0]) (t := 75) ?hr ?_; (case hd => rfl); (case hg => rfl); (case hr => first | (go_simp; done) | (go_simp; rfl))
            intro gb534 hg w36 hbox hb
            have n0_ := sA (Kd.R_below (upR HO524.out) hb)
            have n1_ := sA (Kd.S_below (upS HO527.out) hb)
            have n2_ := sA (Kd.R_below (upR HO533.out) hb)
            have n3_ := sA (blk_below (g := gb517) (upK BK517.out) hb)
            have n4_ := sA (blk_below (g := gb518) (upK BK518.out) hb)
            have n5_ := sA (below_step (upB2 HB.out GE517.out GE518.out) hb)
            have n6_ := sA (hbox)
            have n7_ := sA ((by rw [hg]; exact (below_size (upB2 HB.out GE517.out GE518.out)) : w.heap.size ≤ gb534))
            have n8_ := sA ((by rw [hg]; exact (below_size (upB2 HB.out GE517.out GE518.out)) : w.heap.size ≤ gb534))
            have n9_ := sA ((by rw [hg]; exact Nat.ne_of_lt (blk_lt (g := gb517) (upK BK517.out)) : gb517 ≠ gb534))
            have n10_ := sA ((by rw [hg]; exact Nat.ne_of_gt (blk_lt (g := gb517) (upK BK517.out)) : gb534 ≠ gb517))
            have n11_ := sA ((by rw [hg]; exact Nat.ne_of_lt (blk_lt (g := gb518) (upK BK518.out)) : gb518 ≠ gb534))
            have n12_ := sA ((by rw [hg]; exact Nat.ne_of_gt (blk_lt (g := gb518) (upK BK518.out)) : gb534 ≠ gb518))
            clear HO524
            clear HO527
            clear HO533
            clear BK517
            clear BK518
            clear HB
            have HO524 := n0_
            have HO527 := n1_
            have HO533 := n2_
            have BK517 := n3_
            have BK518 := n4_
            have HB := n5_
            have BK534 := n6_
            have GW534 := n7_
            have GE534 := n8_
            have NB517_534 := n9_
            have NB534_517 := n10_
            have NB518_534 := n11_
            have NB534_518 := n12_
            clear n0_ n1_ n2_ n3_ n4_ n5_ n6_ n7_ n8_ n9_ n10_ n11_ n12_
            clear hb hbox hg
            refine hK.out _ _ ⟨(blk_cell BK517.out 0).trans rfl, (blk_cell BK517.out 1).trans rfl, (blk_cell BK517.out 2).trans rfl⟩ (fun hHeld => ?_)
            clear hK K
            refine norm_ (a' := ?_) ?_ ?_
            rotate_left
            ·
             show Act.put _ (some 11) _ = _
             simp only [Act.put, upL, i64_w, i32_w]
             rfl
            exact norm_ upZ (hJ0_3_6_7_10_12 (v520, .slice Ao35 y522.length co35, .slice Ao34 t525.length co34, v529, .slice Ao33 y531.length co33, gb534) _ ⟨hHeld, (upR HO524.out), (upS HO527.out), (upR HO533.out), (upK BK517.out), (upK BK518.out), (upK BK534.out), GW534.out, GE534.out, NB517_534.out, NB534_517.out, NB518_534.out, NB534_518.out, (upB3 HB.out GE517.out GE518.out GE534.out)⟩)
          rintro ⟨v520, v523, v526, v529, v532, gb534⟩ w33 ⟨hS_, h0_, h1_, h2_, h3_, h4_, h5_, h6_, h7_, h8_, h9_, h10_, h11_, h12_⟩
          have n0_ := sA h0_
          have n1_ := sA h1_
          have n2_ := sA h2_
          have n3_ := sA h3_
          have n4_ := sA h4_
          have n5_ := sA h5_
          have n6_ := sA h6_
          have n7_ := sA h7_
          have n8_ := sA h8_
          have n9_ := sA h9_
          have n10_ := sA h10_
          have n11_ := sA h11_
          have n12_ := sA h12_
          clear BK517
          clear BK518
          clear HB
          clear h0_ h1_ h2_ h3_ h4_ h5_ h6_ h7_ h8_ h9_ h10_ h11_ h12_
          have HO524 := n0_
          have HO527 := n1_
          have HO533 := n2_
          have BK517 := n3_
          have BK518 := n4_
          have BK534 := n5_
          have GW534 := n6_
          have GE534 := n7_
          have NB517_534 := n8_
          have NB534_517 := n9_
          have NB518_534 := n10_
          have NB534_518 := n11_
          have HB := n12_
          clear n0_ n1_ n2_ n3_ n4_ n5_ n6_ n7_ n8_ n9_ n10_ n11_ n12_
          have hHeld : w33.cell? ⟨gb517, 0, none⟩ = some (.slice A0_0 l0_0.length c0_0) ∧ w33.cell? ⟨gb517, 1, none⟩ = some (.slice A0_1 l0_1.length c0_1) ∧ w33.cell? ⟨gb517, 2, none⟩ = some (.slice A0_2 l0_2.length c0_2) := hS_
          obtain ⟨Ao34, co34, eo34⟩ := Kd.R_slice HO533.out
          (first | subst eo34 | (injection eo34 with f1_ f2_ f3_; have f4_ := f1_.symm; have f5_ := f3_.symm; clear f1_ f2_ f3_; subst f4_; subst f5_))
          obtain ⟨Ao35, co35, eo35⟩ := Kd.S_slice HO527.out
          (first | subst eo35 | (injection eo35 with f1_ f2_ f3_; have f4_ := f1_.symm; have f5_ := f3_.symm; clear f1_ f2_ f3_; subst f4_; subst f5_))
          obtain ⟨Ao36, co36, eo36⟩ := Kd.R_slice HO524.out
          (first | subst eo36 | (injection eo36 with f1_ f2_ f3_; have f4_ := f1_.symm; have f5_ := f3_.symm; clear f1_ f2_ f3_; subst f4_; subst f5_))
          refine norm_ (a' := ?_) ?_ ?_
          rotate_left
          ·
           simp only [putAll, Act.put, upL]
           rfl
          refine one_ (i := 13) (N := none) #[true, true, true, true, true, true, true, true, true, true, true, true, true, true] rfl rfl (one_of HT_.out (by kernel_rfl)) (by decide) (fun K hK => ?_)
          have hs37 : w33.cell? ⟨gb534, 0, none⟩ = some (.slice none 0 0) := (blk_cell BK534.out 0).trans rfl
          have hfs37 := blk_frozen BK534.out 0
          have hns37_0 := NB517_534.out
          have hns37_1 := NB518_534.out
          have hms37_0 := NB534_517.out
          have hms37_1 := NB534_518.out
          have hs38 : w33.cell? ⟨gb534, 1, none⟩ = some (.slice none 0 0) := (blk_cell BK534.out 1).trans rfl
          have hfs38 := blk_frozen BK534.out 1
          have hns38_0 := NB517_534.out
          have hns38_1 := NB518_534.out
          have hms38_0 := NB534_517.out
          have hms38_1 := NB534_518.out
          have hs39 : w33.cell? ⟨gb534, 2, none⟩ = some (.slice none 0 0) := (blk_cell BK534.out 2).trans rfl
          have hfs39 := blk_frozen BK534.out 2
          have hns39_0 := NB517_534.out
          have hns39_1 := NB518_534.out
          have hms39_0 := NB534_517.out
          have hms39_1 := NB534_518.out
          refine skip_ (w1 := ?_) (by rfl) rfl ?_ ?_
          rotate_left
          ·
           go_simp
           rfl
          refine hK.out _ _ ⟨((cell_far (p := ⟨gb534, _, none⟩) NB517_534.out _).trans (((cell_far (p := ⟨gb534, _, none⟩) NB517_534.out _).trans (((cell_far (p := ⟨gb534, _, none⟩) NB517_534.out _).trans (hHeld.1)))))), ((cell_far (p := ⟨gb534, _, none⟩) NB517_534.out _).trans (((cell_far (p := ⟨gb534, _, none⟩) NB517_534.out _).trans (((cell_far (p := ⟨gb534, _, none⟩) NB517_534.out _).trans (hHeld.2.1)))))), ((cell_far (p := ⟨gb534, _, none⟩) NB517_534.out _).trans (((cell_far (p := ⟨gb534, _, none⟩) NB517_534.out _).trans (((cell_far (p := ⟨gb534, _, none⟩) NB517_534.out _).trans (hHeld.2.2))))))⟩ (fun hHeld => ?_)
          clear hK K
          refine done_ (done_of HT_.out (by kernel_rfl)) ?_
          have n0_ : Aside0 (Kd.R (Kd.int .i64) 3 (((w33.setCell ⟨gb534, 0, none⟩ (.slice Ao36 y522.length co36)).setCell ⟨gb534, 1, none⟩ (.slice Ao35 t525.length co35)).setCell ⟨gb534, 2, none⟩ (.slice Ao34 y531.length co34)) w.heap.size (fun k_ => some k_ ≠ (.slice Ao34 y531.length co34 : Value).ownBlock) (.slice Ao36 y522.length co36) y522) := ⟨by (with_reducible repeat (first | apply Kd.R_alloc | apply Kd.R_drewN | apply Kd.R_drew)); exact Kd.R_mono (Kd.R_far (p := ⟨gb534, 2, none⟩) (Kd.R_far (p := ⟨gb534, 1, none⟩) (Kd.R_far (p := ⟨gb534, 0, none⟩) (Kd.R_types HO524.out BK534.out (by decide)) (fun _ hk => hk.2) (.slice Ao36 y522.length co36)) (fun _ hk => hk.2) (.slice Ao35 t525.length co35)) (fun _ hk => hk.2) (.slice Ao34 y531.length co34)) (fun _ hk => hk.1)⟩
          have n1_ : Aside0 (Kd.S (Kd.slice 3 (Kd.int .i64)) 31 (((w33.setCell ⟨gb534, 0, none⟩ (.slice Ao36 y522.length co36)).setCell ⟨gb534, 1, none⟩ (.slice Ao35 t525.length co35)).setCell ⟨gb534, 2, none⟩ (.slice Ao34 y531.length co34)) w.heap.size (fun k_ => some k_ ≠ (.slice Ao36 y522.length co36 : Value).ownBlock ∧ some k_ ≠ (.slice Ao34 y531.length co34 : Value).ownBlock) (.slice Ao35 t525.length co35) t525) := ⟨by (with_reducible repeat (first | apply Kd.S_alloc | apply Kd.S_drewN | apply Kd.S_drew)); exact Kd.S_mono (Kd.S_far (p := ⟨gb534, 2, none⟩) (Kd.S_far (p := ⟨gb534, 1, none⟩) (Kd.S_far (p := ⟨gb534, 0, none⟩) (Kd.S_types HO527.out BK534.out (by decide)) (fun _ hk => hk.2) (.slice Ao36 y522.length co36)) (fun _ hk => hk.2) (.slice Ao35 t525.length co35)) (fun _ hk => hk.2) (.slice Ao34 y531.length co34)) (fun _ hk => ⟨hk.1.1, hk.1.2⟩)⟩
          have n2_ : Aside0 (Kd.R (Kd.int .i64) 3 (((w33.setCell ⟨gb534, 0, none⟩ (.slice Ao36 y522.length co36)).setCell ⟨gb534, 1, none⟩ (.slice Ao35 t525.length co35)).setCell ⟨gb534, 2, none⟩ (.slice Ao34 y531.length co34)) w.heap.size (fun k_ => some k_ ≠ (.slice Ao36 y522.length co36 : Value).ownBlock) (.slice Ao34 y531.length co34) y531) := ⟨by (with_reducible repeat (first | apply Kd.R_alloc | apply Kd.R_drewN | apply Kd.R_drew)); exact Kd.R_mono (Kd.R_far (p := ⟨gb534, 2, none⟩) (Kd.R_far (p := ⟨gb534, 1, none⟩) (Kd.R_far (p := ⟨gb534, 0, none⟩) (Kd.R_types HO533.out BK534.out (by decide)) (fun _ hk => hk.2) (.slice Ao36 y522.length co36)) (fun _ hk => hk.2) (.slice Ao35 t525.length co35)) (fun _ hk => hk.2) (.slice Ao34 y531.length co34)) (fun _ hk => hk.1)⟩
          have n3_ : Aside0 ((((w33.setCell ⟨gb534, 0, none⟩ (.slice Ao36 y522.length co36)).setCell ⟨gb534, 1, none⟩ (.slice Ao35 t525.length co35)).setCell ⟨gb534, 2, none⟩ (.slice Ao34 y531.length co34)).heap[gb517]? = some (.cells #[.slice A0_0 l0_0.length c0_0, .slice A0_1 l0_1.length c0_1, .slice A0_2 l0_2.length c0_2] 75 (0, 0))) := ⟨by (with_reducible repeat (first | refine blk_drewN ?_ _ | refine blk_drew ?_ | refine blk_alloc ?_ _)); refine blk_far ?_ NB517_534.out _; (with_reducible repeat (first | refine blk_drewN ?_ _ | refine blk_drew ?_ | refine blk_alloc ?_ _)); refine blk_far ?_ NB517_534.out _; (with_reducible repeat (first | refine blk_drewN ?_ _ | refine blk_drew ?_ | refine blk_alloc ?_ _)); refine blk_far ?_ NB517_534.out _; (with_reducible repeat (first | refine blk_drewN ?_ _ | refine blk_drew ?_ | refine blk_alloc ?_ _)); exact BK517.out⟩
          have n4_ : Aside0 ((((w33.setCell ⟨gb534, 0, none⟩ (.slice Ao36 y522.length co36)).setCell ⟨gb534, 1, none⟩ (.slice Ao35 t525.length co35)).setCell ⟨gb534, 2, none⟩ (.slice Ao34 y531.length co34)).heap[gb518]? = some (.cells #[.slice none 0 0, .slice none 0 0, .slice none 0 0] 75 (0, 0))) := ⟨by (with_reducible repeat (first | refine blk_drewN ?_ _ | refine blk_drew ?_ | refine blk_alloc ?_ _)); refine blk_far ?_ NB518_534.out _; (with_reducible repeat (first | refine blk_drewN ?_ _ | refine blk_drew ?_ | refine blk_alloc ?_ _)); refine blk_far ?_ NB518_534.out _; (with_reducible repeat (first | refine blk_drewN ?_ _ | refine blk_drew ?_ | refine blk_alloc ?_ _)); refine blk_far ?_ NB518_534.out _; (with_reducible repeat (first | refine blk_drewN ?_ _ | refine blk_drew ?_ | refine blk_alloc ?_ _)); exact BK518.out⟩
          have n5_ : Aside0 ((((w33.setCell ⟨gb534, 0, none⟩ (.slice Ao36 y522.length co36)).setCell ⟨gb534, 1, none⟩ (.slice Ao35 t525.length co35)).setCell ⟨gb534, 2, none⟩ (.slice Ao34 y531.length co34)).heap[gb534]? = some (.cells #[.slice Ao36 y522.length co36, .slice Ao35 t525.length co35, .slice Ao34 y531.length co34] 75 (0, 0))) := ⟨by (with_reducible repeat (first | refine blk_drewN ?_ _ | refine blk_drew ?_ | refine blk_alloc ?_ _)); refine blk_put (cs := #[.slice Ao36 y522.length co36, .slice Ao35 t525.length co35, .slice none 0 0]) ?_ 2 _ rfl; (with_reducible repeat (first | refine blk_drewN ?_ _ | refine blk_drew ?_ | refine blk_alloc ?_ _)); refine blk_put (cs := #[.slice Ao36 y522.length co36, .slice none 0 0, .slice none 0 0]) ?_ 1 _ rfl; (with_reducible repeat (first | refine blk_drewN ?_ _ | refine blk_drew ?_ | refine blk_alloc ?_ _)); refine blk_put (cs := #[.slice none 0 0, .slice none 0 0, .slice none 0 0]) ?_ 0 _ rfl; (with_reducible repeat (first | refine blk_drewN ?_ _ | refine blk_drew ?_ | refine blk_alloc ?_ _)); exact BK534.out⟩
          have n6_ : Aside0 (Below w.heap.size w (((w33.setCell ⟨gb534, 0, none⟩ (.slice Ao36 y522.length co36)).setCell ⟨gb534, 1, none⟩ (.slice Ao35 t525.length co35)).setCell ⟨gb534, 2, none⟩ (.slice Ao34 y531.length co34))) := ⟨upB3 HB.out GE517.out GE518.out GE534.out⟩
          (try clear HO524)
          (try clear HO527)
          (try clear HO533)
          (try clear BK517)
          (try clear BK518)
          (try clear BK534)
          (try clear HB)
          generalize (((w33.setCell ⟨gb534, 0, none⟩ (.slice Ao36 y522.length co36)).setCell ⟨gb534, 1, none⟩ (.slice Ao35 t525.length co35)).setCell ⟨gb534, 2, none⟩ (.slice Ao34 y531.length co34)) = w40 at n0_ n1_ n2_ n3_ n4_ n5_ n6_ ⊢
          have HO524 := n0_
          have HO527 := n1_
          have HO533 := n2_
          have BK517 := n3_
          have BK518 := n4_
          have BK534 := n5_
          have HB := n6_
          clear n0_ n1_ n2_ n3_ n4_ n5_ n6_
          have hnb41 := NB534_517.out
          have hnc41 := NB517_534.out
          have hnb42 := NB534_518.out
          have hnc42 := NB518_534.out
          have hcz43_0 : w40.cell? ⟨gb534, 0, none⟩ = some (.slice Ao36 y522.length co36) := (blk_cell BK534.out 0).trans rfl
          have hcz43_1 : w40.cell? ⟨gb534, 1, none⟩ = some (.slice Ao35 t525.length co35) := (blk_cell BK534.out 1).trans rfl
          have hcz43_2 : w40.cell? ⟨gb534, 2, none⟩ = some (.slice Ao34 y531.length co34) := (blk_cell BK534.out 2).trans rfl
          have hfz43_0 := blk_frozen BK534.out 0
          have hfz43_1 := blk_frozen BK534.out 1
          have hfz43_2 := blk_frozen BK534.out 2
          have p535 : 0 ≤ (a1 : Int) := upA
          have q535 : a1 < (y522.length : Int) := upA
          obtain ⟨ad535, e535, hx535_0⟩ := Kd.at_int (Kd.R_reads' HO524.out).2.2 a1 p535 q535
          cases e535
          replace p535 := eq_true p535
          replace q535 := eq_true q535
          have p11 : 0 ≤ (a1 : Int) := upA
          have q11 : (a1 : Int) < ((y522.length : Int) : Int) := upA
          obtain ⟨go11, co11, eo11, gb11, gl11, cl11, HG11⟩ := Kd.R_form HO524.out (by omega)
          (first | cases eo11 | (injection eo11 with ea_ en_ ec_; (first | subst ea_ | (injection ea_ with ea_; subst ea_)); subst ec_; clear en_))
          have GB11 := sA gb11
          have GG11 := sA HG11
          clear gb11 gl11 HG11
          (first | simp only [add_plain] at hx535_0 | skip)
          obtain ⟨hx11_0, hf11_0⟩ := Kd.R_celln 0 HO524.out (a1 : Int) p11 q11
          replace p11 := eq_true p11
          replace q11 := eq_true q11
          obtain ⟨hy44_, hz44_⟩ := Kd.R_celln 0 HO524.out (a1 : Int) (upA) (upA)
          have HP44 := Kd.R_putg HO524.out (a1 : Int) (wrap64 ((rd y522 a1) - a4))
          try go_wp2_with (first | ((with_reducible refine gate_store (t := 3) (p := 31) rfl ?_); refine store_event (t := 3) (p := 31) (v := ?vo_w45) (w1 := (w40.setCell ⟨go11, (a1 : Int).toNat, none⟩ (.int .i64 (wrap64 ((rd y522 a1) - a4))))) ?hg ?ho ?hn ?hr ?_; (case ho => rfl); (case hg => rfl); (case hn => rfl); (case hr => first | (go_simp; done) | (go_simp; rfl)); intro w45 hw; have hg : w40.grownBy w45 (some go11) := (by rw [hw]; exact HP44.2); have hp_ : Kd.R (Kd.int .i64) 3 w45 w.heap.size (fun k_ => some k_ ≠ (.slice Ao34 y531.length co34 : Value).ownBlock) (.slice (some ⟨go11, 0, none⟩) y522.length co36) y536 := (by rw [hw, Ny536.out]; exact HP44.1); clear HP44; have n0_ := sA (blk_grown (g := gb517) (upK BK517.out) hg (Kd.R_ne HO524.out BK517.out (by decide))); have n1_ := sA (blk_grown (g := gb518) (upK BK518.out) hg (Kd.R_ne HO524.out BK518.out (by decide))); have n2_ := sA (hp_); have n3_ := sA (Kd.S_after (v := (.slice (some ⟨go11, 0, none⟩) y522.length co36)) (v1 := (.slice (some ⟨go11, 0, none⟩) y522.length co36)) (ok := (fun k_ => some k_ ≠ (.slice Ao34 y531.length co34 : Value).ownBlock)) (by (with_reducible repeat (first | apply Kd.S_alloc | apply Kd.S_drewN | apply Kd.S_drew)); exact Kd.S_mono HO527.out (fun _ hk => ⟨hk.2, hk.1⟩)) hg (.inl rfl)); have n4_ := sA (Kd.R_after (v := (.slice (some ⟨go11, 0, none⟩) y522.length co36)) (v1 := (.slice (some ⟨go11, 0, none⟩) y522.length co36)) (ok := (fun _ => True)) (by (with_reducible repeat (first | apply Kd.R_alloc | apply Kd.R_drewN | apply Kd.R_drew)); exact Kd.R_mono HO533.out (fun _ hk => ⟨trivial, hk⟩)) hg (.inl rfl)); have n5_ := sA (blk_grown (g := gb534) (upK BK534.out) hg (Kd.R_ne HO524.out BK534.out (by decide))); have n6_ := sA ((by rw [hw]; exact below_set (HB.out) GB11.out : Below w.heap.size w w45)); clear BK517; clear BK518; clear HO524; clear HO527; clear HO533; clear BK534; clear HB; have BK517 := n0_; have BK518 := n1_; have HO524 := n2_; have HO527 := n3_; have HO533 := n4_; have BK534 := n5_; have HB := n6_; clear n0_ n1_ n2_ n3_ n4_ n5_ n6_; clear hg hw hp_; have hcz46_0 : w45.cell? ⟨gb534, 0, none⟩ = some (.slice (some ⟨go11, 0, none⟩) y522.length co36) := (blk_cell BK534.out 0).trans rfl; have hcz46_1 : w45.cell? ⟨gb534, 1, none⟩ = some (.slice Ao35 t525.length co35) := (blk_cell BK534.out 1).trans rfl; have hcz46_2 : w45.cell? ⟨gb534, 2, none⟩ = some (.slice Ao34 y531.length co34) := (blk_cell BK534.out 2).trans rfl; have hfz46_0 := blk_frozen BK534.out 0; have hfz46_1 := blk_frozen BK534.out 1; have hfz46_2 := blk_frozen BK534.out 2; have p537 : 0 ≤ (a1 : Int) := upA; have q537 : a1 < (t525.length : Int) := upA; obtain ⟨ad537, A537_0, c537_0, e537, hx537_0, hl537_0, hi537_0⟩ := at_L1 (Kd.S_reads' HO527.out).2.2 a1 p537 q537; cases e537; obtain ⟨ce537, hce537, hMe537, hcc537⟩ := Kd.S_get HO527.out [] a1 p537 (by first | exact q537 | exact upA | (have e_ := (Kd.S_reads' HO527.out).1; omega)); obtain ⟨ve537_0, rfl, ge537_0⟩ := hMe537; have hv537_0 := hcc537 0 _ rfl; rw [Nat.add_zero, show ((Kd.slice 3 (Kd.int .i64))).sz = 1 from rfl, Nat.mul_one] at hv537_0; replace hv537_0 := Option.some.inj (hv537_0.symm.trans hx537_0); rw [hv537_0] at ge537_0; have HL537_0 := sA (show Kd.R (Kd.int .i64) 3 _ _ _ _ (rd_L1 t525 a1) from ge537_0); clear hv537_0 ge537_0; have HX537_0 := sA hx537_0; clear hcc537 hce537; have HR537_0 := sA hi537_0; have HC537_0 := sA hl537_0; clear hi537_0 hl537_0; replace p537 := eq_true p537; replace q537 := eq_true q537; have p538 : 0 ≤ (a2 : Int) := upA; have q538 : a2 < ((rd_L1 t525 a1).length : Int) := upA; obtain ⟨ad538, e538, hx538_0⟩ := Kd.at_int (by repeat (first | (with_reducible exact HR537_0.out) | (with_reducible refine Kd.C_alloc ?_ _) | (with_reducible refine Kd.C_drewN ?_ _) | (with_reducible refine Kd.C_drew ?_) | exact HR537_0.out)) a2 p538 q538; cases e538; replace p538 := eq_true p538; replace q538 := eq_true q538; have p15 : 0 ≤ (a2 : Int) := upA; have q15 : (a2 : Int) < (((rd_L1 t525 a1).length : Int) : Int) := upA; obtain ⟨go15, co15, eo15, gb15, gl15, cl15, HG15⟩ := Kd.R_form HL537_0.out (by omega); (first | cases eo15 | (injection eo15 with ea_ en_ ec_; (first | subst ea_ | (injection ea_ with ea_; subst ea_)); subst ec_; clear en_)); have GB15 := sA gb15; have GG15 := sA HG15; clear gb15 gl15 HG15; (first | simp only [add_plain] at hx538_0 | skip); obtain ⟨hx15_0, hf15_0⟩ := Kd.R_celln 0 HL537_0.out (a2 : Int) p15 q15; replace p15 := eq_true p15; replace q15 := eq_true q15; have hq47 : (a1 : Int) < (t525.length : Int) := (by have h_ : (a1 : Int) < ((t525.length : Int) : Int) := upA; first | exact h_ | (have e_ := (Kd.S_reads' HO527.out).1; omega) | simpa only [List.length_set, List.length_set] using h_); obtain ⟨oki47, ce47, hcl47, hM47, hcc47, hok47, hbk47⟩ := Kd.S_borrow HO527.out [] (a1 : Int) (upA) hq47; obtain ⟨ve47_0, rfl, ge47_0⟩ := hM47; have hv47 := hcc47 0 _ rfl; rw [Nat.add_zero, show ((Kd.slice 3 (Kd.int .i64))).sz = 1 from rfl, Nat.mul_one] at hv47; replace hv47 := Option.some.inj (hv47.symm.trans HX537_0.out); subst hv47; clear hcc47 hcl47; replace ge47_0 := (show Kd.R (Kd.int .i64) 3 _ _ _ _ (rd_L1 t525 a1) from ge47_0); have HP47 := Kd.R_putg ge47_0 (a2 : Int) (wrap64 ((rd (rd_L1 t525 a1) a2) - a4))) | ((with_reducible refine gate_store (t := 3) (p := 42) rfl ?_); refine store_event (t := 3) (p := 42) (v := ?vo_w48) (w1 := (w45.setCell ⟨go15, (a2 : Int).toNat, none⟩ (.int .i64 (wrap64 ((rd (rd_L1 t525 a1) a2) - a4))))) ?hg ?ho ?hn ?hr ?_; (case ho => rfl); (case hg => rfl); (case hn => rfl); (case hr => first | (go_simp; done) | (go_simp; rfl)); intro w48 hw; have hg : w45.grownBy w48 (some go15) := (by rw [hw]; exact HP47.2); have hz_ : Kd.R (Kd.int .i64) 3 w48 w.heap.size oki47 (.slice (some ⟨go15, 0, none⟩) (rd_L1 t525 a1).length c537_0) y539 := (by rw [hw, Ny539.out]; exact HP47.1); have hp_ : Kd.S (Kd.slice 3 (Kd.int .i64)) 31 w48 w.heap.size (fun k_ => some k_ ≠ (.slice Ao34 y531.length co34 : Value).ownBlock ∧ some k_ ≠ (.slice (some ⟨go11, 0, none⟩) y522.length co36 : Value).ownBlock) (.slice (some ad537) t525.length co35) y541 := (by rw [Ny541.out]; exact hbk47 hg (fun k_ e_ => by injection e_ with e_; subst e_; exact ge47_0.1 _ rfl) (Kd.M_row hz_)); have hm_ := Kd.R_mono hz_ hok47; clear HP47 hbk47; have n0_ := sA (blk_grown (g := gb517) (upK BK517.out) hg (Kd.R_ne HL537_0.out BK517.out (by decide))); have n1_ := sA (blk_grown (g := gb518) (upK BK518.out) hg (Kd.R_ne HL537_0.out BK518.out (by decide))); have n2_ := sA (Kd.R_grown1 (upR HO524.out) rfl hg ((HL537_0.out.1 _ rfl).1.2)); have n3_ := sA (hp_); have n4_ := sA (Kd.R_grown1 (upR HO533.out) rfl hg ((HL537_0.out.1 _ rfl).1.1)); have n5_ := sA (blk_grown (g := gb534) (upK BK534.out) hg (Kd.R_ne HL537_0.out BK534.out (by decide))); have n6_ := sA ((by rw [hw]; exact below_set (HB.out) GB15.out : Below w.heap.size w w48)); have n7_ := sA (hm_); have n8_ := sA ((Kd.R_reads' hm_).2.1); clear BK517; clear BK518; clear HO524; clear HO527; clear HO533; clear BK534; clear HB; clear HL537_0; have BK517 := n0_; have BK518 := n1_; have HO524 := n2_; have HO527 := n3_; have HO533 := n4_; have BK534 := n5_; have HB := n6_; have HL544 := n7_; have HC540 := n8_; clear n0_ n1_ n2_ n3_ n4_ n5_ n6_ n7_ n8_; clear hg hw hp_ hz_ hm_ hok47; have hcz49_0 : w48.cell? ⟨gb534, 0, none⟩ = some (.slice (some ⟨go11, 0, none⟩) y522.length co36) := (blk_cell BK534.out 0).trans rfl; have hcz49_1 : w48.cell? ⟨gb534, 1, none⟩ = some (.slice (some ad537) t525.length co35) := (blk_cell BK534.out 1).trans rfl; have hcz49_2 : w48.cell? ⟨gb534, 2, none⟩ = some (.slice Ao34 y531.length co34) := (blk_cell BK534.out 2).trans rfl; have hfz49_0 := blk_frozen BK534.out 0; have hfz49_1 := blk_frozen BK534.out 1; have hfz49_2 := blk_frozen BK534.out 2; have p542 : 0 ≤ (a3 : Int) := upA; have q542 : a3 < (y531.length : Int) := upA; obtain ⟨ad542, e542, hx542_0⟩ := Kd.at_int (Kd.R_reads' HO533.out).2.2 a3 p542 q542; cases e542; replace p542 := eq_true p542; replace q542 := eq_true q542; have p18 : 0 ≤ (a3 : Int) := upA; have q18 : (a3 : Int) < ((y531.length : Int) : Int) := upA; obtain ⟨go18, co18, eo18, gb18, gl18, cl18, HG18⟩ := Kd.R_form HO533.out (by omega); (first | cases eo18 | (injection eo18 with ea_ en_ ec_; (first | subst ea_ | (injection ea_ with ea_; subst ea_)); subst ec_; clear en_)); have GB18 := sA gb18; have GG18 := sA HG18; clear gb18 gl18 HG18; (first | simp only [add_plain] at hx542_0 | skip); obtain ⟨hx18_0, hf18_0⟩ := Kd.R_celln 0 HO533.out (a3 : Int) p18 q18; replace p18 := eq_true p18; replace q18 := eq_true q18; have n_ := sA (Kd.R_mono (ok' := (fun k_ => some k_ ≠ (.slice (some ⟨go11, 0, none⟩) y522.length co36 : Value).ownBlock)) HO533.out (fun k_ hk => hk.2)); clear HO533; have HO533 := n_; clear n_; obtain ⟨hy50_, hz50_⟩ := Kd.R_celln 0 HO533.out (a3 : Int) (upA) (upA); have HP50 := Kd.R_putg HO533.out (a3 : Int) (wrap64 ((rd y531 a3) - a4))) | ((with_reducible refine gate_store (t := 3) (p := 50) rfl ?_); refine store_event (t := 3) (p := 50) (v := ?vo_w51) (w1 := (w48.setCell ⟨go18, (a3 : Int).toNat, none⟩ (.int .i64 (wrap64 ((rd y531 a3) - a4))))) ?hg ?ho ?hn ?hr ?_; (case ho => rfl); (case hg => rfl); (case hn => rfl); (case hr => first | (go_simp; done) | (go_simp; rfl)); intro w51 hw; have hg : w48.grownBy w51 (some go18) := (by rw [hw]; exact HP50.2); have hp_ : Kd.R (Kd.int .i64) 3 w51 w.heap.size (fun k_ => some k_ ≠ (.slice (some ⟨go11, 0, none⟩) y522.length co36 : Value).ownBlock) (.slice (some ⟨go18, 0, none⟩) y531.length co34) y543 := (by rw [hw, Ny543.out]; exact HP50.1); clear HP50; have n0_ := sA (blk_grown (g := gb517) (upK BK517.out) hg (Kd.R_ne HO533.out BK517.out (by decide))); have n1_ := sA (blk_grown (g := gb518) (upK BK518.out) hg (Kd.R_ne HO533.out BK518.out (by decide))); have n2_ := sA (Kd.R_after (v := (.slice (some ⟨go18, 0, none⟩) y531.length co34)) (v1 := (.slice (some ⟨go18, 0, none⟩) y531.length co34)) (ok := (fun _ => True)) (by (with_reducible repeat (first | apply Kd.R_alloc | apply Kd.R_drewN | apply Kd.R_drew)); exact Kd.R_mono HO524.out (fun _ hk => ⟨trivial, hk⟩)) hg (.inl rfl)); have n3_ := sA (Kd.S_after (v := (.slice (some ⟨go18, 0, none⟩) y531.length co34)) (v1 := (.slice (some ⟨go18, 0, none⟩) y531.length co34)) (ok := (fun k_ => some k_ ≠ (.slice (some ⟨go11, 0, none⟩) y522.length co36 : Value).ownBlock)) (by (with_reducible repeat (first | apply Kd.S_alloc | apply Kd.S_drewN | apply Kd.S_drew)); exact Kd.S_mono HO527.out (fun _ hk => ⟨hk.2, hk.1⟩)) hg (.inl rfl)); have n4_ := sA (hp_); have n5_ := sA (blk_grown (g := gb534) (upK BK534.out) hg (Kd.R_ne HO533.out BK534.out (by decide))); have n6_ := sA (Kd.R_after (v := (.slice (some ⟨go18, 0, none⟩) y531.length co34)) (v1 := (.slice (some ⟨go18, 0, none⟩) y531.length co34)) (ok := (fun k_ => some k_ ≠ (.slice (some ⟨go11, 0, none⟩) y522.length co36 : Value).ownBlock ∧ some k_ ≠ (.slice (some ad537) t525.length co35 : Value).ownBlock)) (by (with_reducible repeat (first | apply Kd.R_alloc | apply Kd.R_drewN | apply Kd.R_drew)); exact Kd.R_mono HL544.out (fun _ hk => ⟨⟨hk.1.2, hk.2⟩, hk.1.1⟩)) hg (.inl rfl)); have n7_ := sA ((by rw [hw]; exact below_set (HB.out) GB18.out : Below w.heap.size w w51)); clear BK517; clear BK518; clear HO524; clear HO527; clear HO533; clear BK534; clear HL544; clear HB; have BK517 := n0_; have BK518 := n1_; have HO524 := n2_; have HO527 := n3_; have HO533 := n4_; have BK534 := n5_; have HL544 := n6_; have HB := n7_; clear n0_ n1_ n2_ n3_ n4_ n5_ n6_ n7_; clear hg hw hp_; have hcz52_0 : w51.cell? ⟨gb534, 0, none⟩ = some (.slice (some ⟨go11, 0, none⟩) y522.length co36) := (blk_cell BK534.out 0).trans rfl; have hcz52_1 : w51.cell? ⟨gb534, 1, none⟩ = some (.slice (some ad537) t525.length co35) := (blk_cell BK534.out 1).trans rfl; have hcz52_2 : w51.cell? ⟨gb534, 2, none⟩ = some (.slice (some ⟨go18, 0, none⟩) y531.length co34) := (blk_cell BK534.out 2).trans rfl; have hfz52_0 := blk_frozen BK534.out 0; have hfz52_1 := blk_frozen BK534.out 1; have hfz52_2 := blk_frozen BK534.out 2; have hnb53 := NB518_517.out; have hnc53 := NB517_518.out; have hcz54_0 : w51.cell? ⟨gb518, 0, none⟩ = some (.slice none 0 0) := (blk_cell BK518.out 0).trans rfl; have hcz54_1 : w51.cell? ⟨gb518, 1, none⟩ = some (.slice none 0 0) := (blk_cell BK518.out 1).trans rfl; have hcz54_2 : w51.cell? ⟨gb518, 2, none⟩ = some (.slice none 0 0) := (blk_cell BK518.out 2).trans rfl; have hfz54_0 := blk_frozen BK518.out 0; have hfz54_1 := blk_frozen BK518.out 1; have hfz54_2 := blk_frozen BK518.out 2))
          refine bodyPost_ret (results_cell_row rfl _ _ gb518 75 #[.slice (some ⟨go11, 0, none⟩) y522.length co36, .slice (some ad537) t525.length co35, .slice (some ⟨go18, 0, none⟩) y531.length co34] (0, 0) _ rfl (by (with_reducible repeat (first | refine blk_drewN ?_ _ | refine blk_drew ?_ | refine blk_alloc ?_ _)); refine blk_put (cs := #[.slice (some ⟨go11, 0, none⟩) y522.length co36, .slice (some ad537) t525.length co35, .slice none 0 0]) ?_ 2 _ rfl; (with_reducible repeat (first | refine blk_drewN ?_ _ | refine blk_drew ?_ | refine blk_alloc ?_ _)); refine blk_put (cs := #[.slice (some ⟨go11, 0, none⟩) y522.length co36, .slice none 0 0, .slice none 0 0]) ?_ 1 _ rfl; (with_reducible repeat (first | refine blk_drewN ?_ _ | refine blk_drew ?_ | refine blk_alloc ?_ _)); refine blk_put (cs := #[.slice none 0 0, .slice none 0 0, .slice none 0 0]) ?_ 0 _ rfl; (with_reducible repeat (first | refine blk_drewN ?_ _ | refine blk_drew ?_ | refine blk_alloc ?_ _)); exact BK518.out) Try.underlying75 rfl (by kernel_rfl)) rfl ?_
          exact ⟨_, _, _, by first | rfl | (simp [errW_none, errW_some] <;> rfl) | (simp [*, errW_none, errW_some] <;> rfl), by (with_reducible repeat (first | apply Kd.R_alloc | apply Kd.R_drewN | apply Kd.R_drew)); exact Kd.R_mono (Kd.R_far (p := ⟨gb518, 2, none⟩) (Kd.R_far (p := ⟨gb518, 1, none⟩) (Kd.R_far (p := ⟨gb518, 0, none⟩) (Kd.R_types HO524.out BK518.out (by decide)) (fun _ hk => hk.2) (.slice (some ⟨go11, 0, none⟩) y522.length co36)) (fun _ hk => hk.2) (.slice (some ad537) t525.length co35)) (fun _ hk => hk.2) (.slice (some ⟨go18, 0, none⟩) y531.length co34)) (fun _ hk => hk.1.2), by (with_reducible repeat (first | apply Kd.S_alloc | apply Kd.S_drewN | apply Kd.S_drew)); exact Kd.S_mono (Kd.S_far (p := ⟨gb518, 2, none⟩) (Kd.S_far (p := ⟨gb518, 1, none⟩) (Kd.S_far (p := ⟨gb518, 0, none⟩) (Kd.S_types HO527.out BK518.out (by decide)) (fun _ hk => hk.2) (.slice (some ⟨go11, 0, none⟩) y522.length co36)) (fun _ hk => hk.2) (.slice (some ad537) t525.length co35)) (fun _ hk => hk.2) (.slice (some ⟨go18, 0, none⟩) y531.length co34)) (fun _ hk => ⟨hk.1.1, hk.1.2⟩), by (with_reducible repeat (first | apply Kd.R_alloc | apply Kd.R_drewN | apply Kd.R_drew)); exact Kd.R_mono (Kd.R_far (p := ⟨gb518, 2, none⟩) (Kd.R_far (p := ⟨gb518, 1, none⟩) (Kd.R_far (p := ⟨gb518, 0, none⟩) (Kd.R_types HO533.out BK518.out (by decide)) (fun _ hk => hk.2) (.slice (some ⟨go11, 0, none⟩) y522.length co36)) (fun _ hk => hk.2) (.slice (some ad537) t525.length co35)) (fun _ hk => hk.2) (.slice (some ⟨go18, 0, none⟩) y531.length co34)) (fun _ hk => hk.1), upB3 HB.out GE517.out GE518.out GE534.out⟩
         ·
          rw [if_neg c17] at H
          exact absurd H (by simp)
        ·
         rw [if_neg c16] at H
         exact absurd H (by simp)
       ·
        rw [if_neg c14] at H
        exact absurd H (by simp)
      ·
       rw [if_neg c13] at H
       exact absurd H (by simp)
     ·
      rw [if_neg c12] at H
      exact absurd H (by simp)
    ·
     rw [if_neg c10] at H
     exact absurd H (by simp)
   ·
    rw [if_neg c9] at H
    exact absurd H (by simp)
  ·
   rw [if_neg c8] at H
   exact absurd H (by simp)
 ·
  rw [if_neg c6] at H
  exact absurd H (by simp)
theorem info24 : (Try.prog.info? 24).map (fun i => (i.zero, i.size, i.bytes)) = some (some (.agg #[(.int .i64 0), (.int .i64 0), (.int .i64 0), (.int .i64 0)]), 4, 32) := by kernel_rfl
mutual
def kinkeepref35_Settle.l0 : Nat → List Int → Int → List Int → Int → Int → List Int → List (List Int) → List Int → Option ((List (S24)) × Bool)
 | 0, _, _, _, _, _, _, _, _ => none
 | k + 1, x1, x6, x7, x9, x10, x169000, x169001, x169002 => if x10 < x6 then (if 0 ≤ x10 then (if x10 < (x7.length : Int) then (if x10 < (x1.length : Int) then (if x10 < (x169000.length : Int) then (if x10 < (x169002.length : Int) then (kinkeepref35_Settle.l0 k x1 x6 x7 (wrap64 (x9 + (mx 0 (wrap64 ((rd x7 x10) - (rd x1 x10)))))) (wrap64 (x10 + 1)) (x169000.set (x10 : Int).toNat (mx 0 (wrap64 ((rd x7 x10) - (rd x1 x10))))) x169001 (x169002.set (x10 : Int).toNat (mx 0 (wrap64 ((rd x1 x10) - (rd x7 x10)))))) else (none)) else (none)) else (none)) else (none)) else (none)) else ((kinkeepref35_relief_flow.f k x169000 x169001 x169002).bind fun t176 => (if t176 < x9 then (some (([] : List (S24)), false)) else (kinkeepref35_Settle.l1 k x6 x9 (([] : List (S24))) 0 x169000 x169001 x169002)))
def kinkeepref35_Settle.l1 : Nat → Int → Int → List (S24) → Int → List Int → List (List Int) → List Int → Option ((List (S24)) × Bool)
 | 0, _, _, _, _, _, _, _ => none
 | k + 1, x6, x9, x11, x12, x169000, x169001, x169002 => if x12 < x6 then (kinkeepref35_Settle.l2 k x6 x9 x11 x12 0 x169000 x169001 x169002) else (some (x11, true))
def kinkeepref35_Settle.l2 : Nat → Int → Int → List (S24) → Int → Int → List Int → List (List Int) → List Int → Option ((List (S24)) × Bool)
 | 0, _, _, _, _, _, _, _, _ => none
 | k + 1, x6, x9, x11, x12, x13, x169000, x169001, x169002 => if x13 < x6 then (kinkeepref35_Settle.l3 k x6 x9 x11 x12 x13 0 x169000 x169001 x169002) else (kinkeepref35_Settle.l1 k x6 x9 x11 (wrap64 (x12 + 1)) x169000 x169001 x169002)
def kinkeepref35_Settle.l3 : Nat → Int → Int → List (S24) → Int → Int → Int → List Int → List (List Int) → List Int → Option ((List (S24)) × Bool)
 | 0, _, _, _, _, _, _, _, _, _ => none
 | k + 1, x6, x9, x11, x12, x13, x14, x169000, x169001, x169002 => if x14 < x6 then (if x12 = x13 then (kinkeepref35_Settle.j4 k x6 x9 x11 x12 x13 x14 true x169000 x169001 x169002) else (if x12 = x14 then (kinkeepref35_Settle.j4 k x6 x9 x11 x12 x13 x14 true x169000 x169001 x169002) else (kinkeepref35_Settle.j4 k x6 x9 x11 x12 x13 x14 (x13 == x14) x169000 x169001 x169002))) else (kinkeepref35_Settle.l2 k x6 x9 x11 x12 (wrap64 (x13 + 1)) x169000 x169001 x169002)
def kinkeepref35_Settle.j4 : Nat → Int → Int → List (S24) → Int → Int → Int → Bool → List Int → List (List Int) → List Int → Option ((List (S24)) × Bool)
 | 0, _, _, _, _, _, _, _, _, _, _ => none
 | k + 1, x6, x9, x11, x12, x13, x14, x99, x169000, x169001, x169002 => if x99 = true then (kinkeepref35_Settle.l3 k x6 x9 x11 x12 x13 (wrap64 (x14 + 1)) x169000 x169001 x169002) else (if 0 ≤ x12 then (if x12 < (x169000.length : Int) then (if x12 < (x169001.length : Int) then (if 0 ≤ x13 then (if x13 < ((rd_L1 x169001 x12).length : Int) then (if 0 ≤ x14 then (if x14 < (x169002.length : Int) then (kinkeepref35_Settle.l4 k x6 x9 x11 x12 x13 x14 (mn (mn (rd x169000 x12) (rd (rd_L1 x169001 x12) x13)) (rd x169002 x14)) x169000 x169001 x169002) else (none)) else (none)) else (none)) else (none)) else (none)) else (none)) else (none))
def kinkeepref35_Settle.l4 : Nat → Int → Int → List (S24) → Int → Int → Int → Int → List Int → List (List Int) → List Int → Option ((List (S24)) × Bool)
 | 0, _, _, _, _, _, _, _, _, _, _ => none
 | k + 1, x6, x9, x11, x12, x13, x14, x15, x169000, x169001, x169002 => if x15 > 0 then ((kinkeepref35_relief_moved.f k x169000 x169001 x169002 x12 x13 x14 x15).bind fun bt184 => ((kinkeepref35_relief_flow.f k bt184.1 bt184.2.1 bt184.2.2).bind fun t193 => (if t193 < (wrap64 (x9 - x15)) then (kinkeepref35_Settle.l4 k x6 x9 x11 x12 x13 x14 (wrap64 (x15 - 1)) x169000 x169001 x169002) else ((kinkeepref35_relief_moved.f k x169000 x169001 x169002 x12 x13 x14 x15).bind fun bt194 => (if x11.length < 4398046511104 then (kinkeepref35_Settle.l3 k x6 (wrap64 (x9 - x15)) (x11 ++ [(⟨x12, x14, x13, x15⟩ : S24)]) x12 x13 (wrap64 (x14 + 1)) bt194.1 bt194.2.1 bt194.2.2) else (none)))))) else (kinkeepref35_Settle.l3 k x6 x9 x11 x12 x13 (wrap64 (x14 + 1)) x169000 x169001 x169002)
end
def kinkeepref35_Settle.f (k : Nat) (l0 : List (List Int)) (l1 : List Int) : Option ((List (S24)) × Bool) := (kinkeepref35_Held.f k l0).bind fun t156 => ((kinkeepref35_Clone.f k l0).bind fun t159 => (if 0 ≤ (l0.length : Int) then (if ((l0.length : Int) : Int).toNat ≤ 35184372088832 then (kinkeepref35_Settle.l0 k l1 (l0.length : Int) t156 0 0 (List.replicate ((l0.length : Int) : Int).toNat 0) t159 (List.replicate ((l0.length : Int) : Int).toNat 0)) else (none)) else (none)))
theorem kinkeepref35_Settle.mono_l : ∀ k, (∀ y0 y1 y2 y3 y4 y5 y6 y7, LeO (kinkeepref35_Settle.l0 k y0 y1 y2 y3 y4 y5 y6 y7) (kinkeepref35_Settle.l0 (k + 1) y0 y1 y2 y3 y4 y5 y6 y7)) ∧ (∀ y0 y1 y2 y3 y4 y5 y6, LeO (kinkeepref35_Settle.l1 k y0 y1 y2 y3 y4 y5 y6) (kinkeepref35_Settle.l1 (k + 1) y0 y1 y2 y3 y4 y5 y6)) ∧ (∀ y0 y1 y2 y3 y4 y5 y6 y7, LeO (kinkeepref35_Settle.l2 k y0 y1 y2 y3 y4 y5 y6 y7) (kinkeepref35_Settle.l2 (k + 1) y0 y1 y2 y3 y4 y5 y6 y7)) ∧ (∀ y0 y1 y2 y3 y4 y5 y6 y7 y8, LeO (kinkeepref35_Settle.l3 k y0 y1 y2 y3 y4 y5 y6 y7 y8) (kinkeepref35_Settle.l3 (k + 1) y0 y1 y2 y3 y4 y5 y6 y7 y8)) ∧ (∀ y0 y1 y2 y3 y4 y5 y6 y7 y8 y9, LeO (kinkeepref35_Settle.j4 k y0 y1 y2 y3 y4 y5 y6 y7 y8 y9) (kinkeepref35_Settle.j4 (k + 1) y0 y1 y2 y3 y4 y5 y6 y7 y8 y9)) ∧ (∀ y0 y1 y2 y3 y4 y5 y6 y7 y8 y9, LeO (kinkeepref35_Settle.l4 k y0 y1 y2 y3 y4 y5 y6 y7 y8 y9) (kinkeepref35_Settle.l4 (k + 1) y0 y1 y2 y3 y4 y5 y6 y7 y8 y9))
 | 0 => ⟨fun _ _ _ _ _ _ _ _ r h => by simp [kinkeepref35_Settle.l0] at h, fun _ _ _ _ _ _ _ r h => by simp [kinkeepref35_Settle.l1] at h, fun _ _ _ _ _ _ _ _ r h => by simp [kinkeepref35_Settle.l2] at h, fun _ _ _ _ _ _ _ _ _ r h => by simp [kinkeepref35_Settle.l3] at h, fun _ _ _ _ _ _ _ _ _ _ r h => by simp [kinkeepref35_Settle.j4] at h, fun _ _ _ _ _ _ _ _ _ _ r h => by simp [kinkeepref35_Settle.l4] at h⟩
 | k + 1 => by
  obtain ⟨ih0, ih1, ih2, ih3, ih4, ih5⟩ := kinkeepref35_Settle.mono_l k
  refine ⟨?_, ?_, ?_, ?_, ?_, ?_⟩
  ·
   intro y0 y1 y2 y3 y4 y5 y6 y7
   unfold kinkeepref35_Settle.l0
   repeat' first
   | (with_reducible exact ih0 _ _ _ _ _ _ _ _)
   | (with_reducible exact ih1 _ _ _ _ _ _ _)
   | (with_reducible exact ih2 _ _ _ _ _ _ _ _)
   | (with_reducible exact ih3 _ _ _ _ _ _ _ _ _)
   | (with_reducible exact ih4 _ _ _ _ _ _ _ _ _ _)
   | (with_reducible exact ih5 _ _ _ _ _ _ _ _ _ _)
   | (with_reducible exact kinkeepref35_Clone.mono _ _)
   | (with_reducible exact kinkeepref35_Held.mono _ _)
   | (with_reducible exact kinkeepref35_relief_flow.mono _ _ _ _)
   | (with_reducible exact kinkeepref35_relief_moved.mono _ _ _ _ _ _ _ _)
   | (with_reducible exact LeO.refl _)
   | (with_reducible exact LeO.none _)
   | (with_reducible refine LeO.ite ?_ ?_)
   | (with_reducible refine LeO.bind ?_ (fun _ => ?_))
   | exact ih0 _ _ _ _ _ _ _ _
   | exact ih1 _ _ _ _ _ _ _
   | exact ih2 _ _ _ _ _ _ _ _
   | exact ih3 _ _ _ _ _ _ _ _ _
   | exact ih4 _ _ _ _ _ _ _ _ _ _
   | exact ih5 _ _ _ _ _ _ _ _ _ _
   | exact kinkeepref35_Clone.mono _ _
   | exact kinkeepref35_Held.mono _ _
   | exact kinkeepref35_relief_flow.mono _ _ _ _
   | exact kinkeepref35_relief_moved.mono _ _ _ _ _ _ _ _
   | exact LeO.none _
   | refine LeO.ite ?_ ?_
   | refine LeO.bind ?_ (fun _ => ?_)
  ·
   intro y0 y1 y2 y3 y4 y5 y6
   unfold kinkeepref35_Settle.l1
   repeat' first
   | (with_reducible exact ih0 _ _ _ _ _ _ _ _)
   | (with_reducible exact ih1 _ _ _ _ _ _ _)
   | (with_reducible exact ih2 _ _ _ _ _ _ _ _)
   | (with_reducible exact ih3 _ _ _ _ _ _ _ _ _)
   | (with_reducible exact ih4 _ _ _ _ _ _ _ _ _ _)
   | (with_reducible exact ih5 _ _ _ _ _ _ _ _ _ _)
   | (with_reducible exact kinkeepref35_Clone.mono _ _)
   | (with_reducible exact kinkeepref35_Held.mono _ _)
   | (with_reducible exact kinkeepref35_relief_flow.mono _ _ _ _)
   | (with_reducible exact kinkeepref35_relief_moved.mono _ _ _ _ _ _ _ _)
   | (with_reducible exact LeO.refl _)
   | (with_reducible exact LeO.none _)
   | (with_reducible refine LeO.ite ?_ ?_)
   | (with_reducible refine LeO.bind ?_ (fun _ => ?_))
   | exact ih0 _ _ _ _ _ _ _ _
   | exact ih1 _ _ _ _ _ _ _
   | exact ih2 _ _ _ _ _ _ _ _
   | exact ih3 _ _ _ _ _ _ _ _ _
   | exact ih4 _ _ _ _ _ _ _ _ _ _
   | exact ih5 _ _ _ _ _ _ _ _ _ _
   | exact kinkeepref35_Clone.mono _ _
   | exact kinkeepref35_Held.mono _ _
   | exact kinkeepref35_relief_flow.mono _ _ _ _
   | exact kinkeepref35_relief_moved.mono _ _ _ _ _ _ _ _
   | exact LeO.none _
   | refine LeO.ite ?_ ?_
   | refine LeO.bind ?_ (fun _ => ?_)
  ·
   intro y0 y1 y2 y3 y4 y5 y6 y7
   unfold kinkeepref35_Settle.l2
   repeat' first
   | (with_reducible exact ih0 _ _ _ _ _ _ _ _)
   | (with_reducible exact ih1 _ _ _ _ _ _ _)
   | (with_reducible exact ih2 _ _ _ _ _ _ _ _)
   | (with_reducible exact ih3 _ _ _ _ _ _ _ _ _)
   | (with_reducible exact ih4 _ _ _ _ _ _ _ _ _ _)
   | (with_reducible exact ih5 _ _ _ _ _ _ _ _ _ _)
   | (with_reducible exact kinkeepref35_Clone.mono _ _)
   | (with_reducible exact kinkeepref35_Held.mono _ _)
   | (with_reducible exact kinkeepref35_relief_flow.mono _ _ _ _)
   | (with_reducible exact kinkeepref35_relief_moved.mono _ _ _ _ _ _ _ _)
   | (with_reducible exact LeO.refl _)
   | (with_reducible exact LeO.none _)
   | (with_reducible refine LeO.ite ?_ ?_)
   | (with_reducible refine LeO.bind ?_ (fun _ => ?_))
   | exact ih0 _ _ _ _ _ _ _ _
   | exact ih1 _ _ _ _ _ _ _
   | exact ih2 _ _ _ _ _ _ _ _
   | exact ih3 _ _ _ _ _ _ _ _ _
   | exact ih4 _ _ _ _ _ _ _ _ _ _
   | exact ih5 _ _ _ _ _ _ _ _ _ _
   | exact kinkeepref35_Clone.mono _ _
   | exact kinkeepref35_Held.mono _ _
   | exact kinkeepref35_relief_flow.mono _ _ _ _
   | exact kinkeepref35_relief_moved.mono _ _ _ _ _ _ _ _
   | exact LeO.none _
   | refine LeO.ite ?_ ?_
   | refine LeO.bind ?_ (fun _ => ?_)
  ·
   intro y0 y1 y2 y3 y4 y5 y6 y7 y8
   unfold kinkeepref35_Settle.l3
   repeat' first
   | (with_reducible exact ih0 _ _ _ _ _ _ _ _)
   | (with_reducible exact ih1 _ _ _ _ _ _ _)
   | (with_reducible exact ih2 _ _ _ _ _ _ _ _)
   | (with_reducible exact ih3 _ _ _ _ _ _ _ _ _)
   | (with_reducible exact ih4 _ _ _ _ _ _ _ _ _ _)
   | (with_reducible exact ih5 _ _ _ _ _ _ _ _ _ _)
   | (with_reducible exact kinkeepref35_Clone.mono _ _)
   | (with_reducible exact kinkeepref35_Held.mono _ _)
   | (with_reducible exact kinkeepref35_relief_flow.mono _ _ _ _)
   | (with_reducible exact kinkeepref35_relief_moved.mono _ _ _ _ _ _ _ _)
   | (with_reducible exact LeO.refl _)
   | (with_reducible exact LeO.none _)
   | (with_reducible refine LeO.ite ?_ ?_)
   | (with_reducible refine LeO.bind ?_ (fun _ => ?_))
   | exact ih0 _ _ _ _ _ _ _ _
   | exact ih1 _ _ _ _ _ _ _
   | exact ih2 _ _ _ _ _ _ _ _
   | exact ih3 _ _ _ _ _ _ _ _ _
   | exact ih4 _ _ _ _ _ _ _ _ _ _
   | exact ih5 _ _ _ _ _ _ _ _ _ _
   | exact kinkeepref35_Clone.mono _ _
   | exact kinkeepref35_Held.mono _ _
   | exact kinkeepref35_relief_flow.mono _ _ _ _
   | exact kinkeepref35_relief_moved.mono _ _ _ _ _ _ _ _
   | exact LeO.none _
   | refine LeO.ite ?_ ?_
   | refine LeO.bind ?_ (fun _ => ?_)
  ·
   intro y0 y1 y2 y3 y4 y5 y6 y7 y8 y9
   unfold kinkeepref35_Settle.j4
   repeat' first
   | (with_reducible exact ih0 _ _ _ _ _ _ _ _)
   | (with_reducible exact ih1 _ _ _ _ _ _ _)
   | (with_reducible exact ih2 _ _ _ _ _ _ _ _)
   | (with_reducible exact ih3 _ _ _ _ _ _ _ _ _)
   | (with_reducible exact ih4 _ _ _ _ _ _ _ _ _ _)
   | (with_reducible exact ih5 _ _ _ _ _ _ _ _ _ _)
   | (with_reducible exact kinkeepref35_Clone.mono _ _)
   | (with_reducible exact kinkeepref35_Held.mono _ _)
   | (with_reducible exact kinkeepref35_relief_flow.mono _ _ _ _)
   | (with_reducible exact kinkeepref35_relief_moved.mono _ _ _ _ _ _ _ _)
   | (with_reducible exact LeO.refl _)
   | (with_reducible exact LeO.none _)
   | (with_reducible refine LeO.ite ?_ ?_)
   | (with_reducible refine LeO.bind ?_ (fun _ => ?_))
   | exact ih0 _ _ _ _ _ _ _ _
   | exact ih1 _ _ _ _ _ _ _
   | exact ih2 _ _ _ _ _ _ _ _
   | exact ih3 _ _ _ _ _ _ _ _ _
   | exact ih4 _ _ _ _ _ _ _ _ _ _
   | exact ih5 _ _ _ _ _ _ _ _ _ _
   | exact kinkeepref35_Clone.mono _ _
   | exact kinkeepref35_Held.mono _ _
   | exact kinkeepref35_relief_flow.mono _ _ _ _
   | exact kinkeepref35_relief_moved.mono _ _ _ _ _ _ _ _
   | exact LeO.none _
   | refine LeO.ite ?_ ?_
   | refine LeO.bind ?_ (fun _ => ?_)
  ·
   intro y0 y1 y2 y3 y4 y5 y6 y7 y8 y9
   unfold kinkeepref35_Settle.l4
   repeat' first
   | (with_reducible exact ih0 _ _ _ _ _ _ _ _)
   | (with_reducible exact ih1 _ _ _ _ _ _ _)
   | (with_reducible exact ih2 _ _ _ _ _ _ _ _)
   | (with_reducible exact ih3 _ _ _ _ _ _ _ _ _)
   | (with_reducible exact ih4 _ _ _ _ _ _ _ _ _ _)
   | (with_reducible exact ih5 _ _ _ _ _ _ _ _ _ _)
   | (with_reducible exact kinkeepref35_Clone.mono _ _)
   | (with_reducible exact kinkeepref35_Held.mono _ _)
   | (with_reducible exact kinkeepref35_relief_flow.mono _ _ _ _)
   | (with_reducible exact kinkeepref35_relief_moved.mono _ _ _ _ _ _ _ _)
   | (with_reducible exact LeO.refl _)
   | (with_reducible exact LeO.none _)
   | (with_reducible refine LeO.ite ?_ ?_)
   | (with_reducible refine LeO.bind ?_ (fun _ => ?_))
   | exact ih0 _ _ _ _ _ _ _ _
   | exact ih1 _ _ _ _ _ _ _
   | exact ih2 _ _ _ _ _ _ _ _
   | exact ih3 _ _ _ _ _ _ _ _ _
   | exact ih4 _ _ _ _ _ _ _ _ _ _
   | exact ih5 _ _ _ _ _ _ _ _ _ _
   | exact kinkeepref35_Clone.mono _ _
   | exact kinkeepref35_Held.mono _ _
   | exact kinkeepref35_relief_flow.mono _ _ _ _
   | exact kinkeepref35_relief_moved.mono _ _ _ _ _ _ _ _
   | exact LeO.none _
   | refine LeO.ite ?_ ?_
   | refine LeO.bind ?_ (fun _ => ?_)
theorem kinkeepref35_Settle.mono : ∀ a0 a1 k, LeO (kinkeepref35_Settle.f k a0 a1) (kinkeepref35_Settle.f (k + 1) a0 a1) := by
 intro a0 a1 k
 obtain ⟨ih0, ih1, ih2, ih3, ih4, ih5⟩ := kinkeepref35_Settle.mono_l k
 unfold kinkeepref35_Settle.f
 repeat' first
  | (with_reducible exact ih0 _ _ _ _ _ _ _ _)
  | (with_reducible exact ih1 _ _ _ _ _ _ _)
  | (with_reducible exact ih2 _ _ _ _ _ _ _ _)
  | (with_reducible exact ih3 _ _ _ _ _ _ _ _ _)
  | (with_reducible exact ih4 _ _ _ _ _ _ _ _ _ _)
  | (with_reducible exact ih5 _ _ _ _ _ _ _ _ _ _)
  | (with_reducible exact kinkeepref35_Clone.mono _ _)
  | (with_reducible exact kinkeepref35_Held.mono _ _)
  | (with_reducible exact kinkeepref35_relief_flow.mono _ _ _ _)
  | (with_reducible exact kinkeepref35_relief_moved.mono _ _ _ _ _ _ _ _)
  | (with_reducible exact LeO.refl _)
  | (with_reducible exact LeO.none _)
  | (with_reducible refine LeO.ite ?_ ?_)
  | (with_reducible refine LeO.bind ?_ (fun _ => ?_))
  | exact ih0 _ _ _ _ _ _ _ _
  | exact ih1 _ _ _ _ _ _ _
  | exact ih2 _ _ _ _ _ _ _ _
  | exact ih3 _ _ _ _ _ _ _ _ _
  | exact ih4 _ _ _ _ _ _ _ _ _ _
  | exact ih5 _ _ _ _ _ _ _ _ _ _
  | exact kinkeepref35_Clone.mono _ _
  | exact kinkeepref35_Held.mono _ _
  | exact kinkeepref35_relief_flow.mono _ _ _ _
  | exact kinkeepref35_relief_moved.mono _ _ _ _ _ _ _ _
  | exact LeO.none _
  | refine LeO.ite ?_ ?_
  | refine LeO.bind ?_ (fun _ => ?_)
def kinkeepref35_Settle.T3 : Bool × List (List Nat × List Nat) := (true, [([], []), ([0], [0]), ([], []), ([2, 2], [2]), ([], []), ([4, 4], [4]), ([1, 3, 5], [1, 3, 5]), ([], []), ([7, 6, 1, 0, 1, 2, 3, 4, 5, 6, 7], [6, 7])])
def kinkeepref35_Settle.B3 : List Nat := [0, 1, 0, 4, 0, 16, 63, 0, 255]
theorem kinkeepref35_Settle.tab3 : rtab .any (opsOf Try.f31 3) = kinkeepref35_Settle.T3 := by kernel_rfl
theorem kinkeepref35_Settle.bits3 : waitsOk kinkeepref35_Settle.T3.2 kinkeepref35_Settle.B3 = true := by kernel_rfl
def kinkeepref35_Settle.T8 : Bool × List (List Nat × List Nat) := (true, [([], []), ([0], [0]), ([], []), ([], []), ([3], [3]), ([], []), ([], []), ([], []), ([6, 7], [6, 7]), ([8], [8]), ([], []), ([], []), ([10, 11], [10, 11]), ([12], [12]), ([9, 13], [9, 13]), ([14], [14]), ([], []), ([], []), ([16, 17], [16, 17]), ([18], [18]), ([], []), ([], []), ([20, 21], [20, 21]), ([22], [22]), ([19, 23], [19, 23]), ([24], [24]), ([1, 2, 0, 1, 2, 6, 7, 8, 9, 10, 11, 12, 13, 14, 15, 19, 23], [1, 2]), ([26, 15, 0, 1, 2, 6, 7, 8, 9, 10, 11, 12, 13, 14, 15, 19, 23], [15, 26]), ([4, 5, 0, 1, 2, 3, 4, 5, 6, 7, 8, 9, 10, 11, 12, 13, 14, 15, 16, 17, 18, 19, 20, 21, 22, 23, 24, 25, 26, 27], [4, 5]), ([28, 25, 27, 0, 1, 2, 3, 4, 5, 6, 7, 8, 9, 10, 11, 12, 13, 14, 15, 16, 17, 18, 19, 20, 21, 22, 23, 24, 25, 26, 27], [25, 28])])
def kinkeepref35_Settle.B8 : List Nat := [0, 1, 0, 0, 8, 0, 0, 0, 192, 448, 0, 0, 3072, 7168, 16320, 32704, 0, 0, 196608, 458752, 0, 0, 3145728, 7340032, 16711680, 33488896, 16777159, 83886023, 268435455, 536870911]
theorem kinkeepref35_Settle.tab8 : rtab .any (opsOf Try.f31 8) = kinkeepref35_Settle.T8 := by kernel_rfl
theorem kinkeepref35_Settle.bits8 : waitsOk kinkeepref35_Settle.T8.2 kinkeepref35_Settle.B8 = true := by kernel_rfl
def kinkeepref35_Settle.T23 : Bool × List (List Nat × List Nat) := (true, [([], []), ([0], [0]), ([], []), ([1, 2], [1, 2]), ([3], [3]), ([], []), ([5], [5]), ([], []), ([6, 7], [6, 7]), ([8], [8]), ([], []), ([9, 10], [9, 10]), ([11], [11]), ([], []), ([13], [13]), ([], []), ([14, 15], [14, 15]), ([16], [16]), ([4, 12, 17], [4, 12, 17]), ([18, 0, 1, 2, 3, 4, 5, 6, 7, 8, 9, 10, 11, 12, 13, 14, 15, 16, 17, 18], [18])])
def kinkeepref35_Settle.B23 : List Nat := [0, 1, 0, 7, 15, 0, 32, 0, 224, 480, 0, 2016, 4064, 0, 8192, 0, 57344, 122880, 262143, 524287]
theorem kinkeepref35_Settle.tab23 : rtab .any (opsOf Try.f31 23) = kinkeepref35_Settle.T23 := by kernel_rfl
theorem kinkeepref35_Settle.bits23 : waitsOk kinkeepref35_Settle.T23.2 kinkeepref35_Settle.B23 = true := by kernel_rfl
end Go.Proofs.Ytdljbmgknhbceaa.Q
end
section
namespace Go.Proofs.Ytdljbmgknhbceaa.P
open Go.RowKit Go.Proofs.YtdljbmgknhbceaaW.PrintWords Go.Proofs.YtdljbmgknhbceaaW.PrintMore Go.Proofs.Ytdljbmgknhbceaa.Q
theorem Ev.of {α : Type} {f : Nat → Option α} (hm : ∀ k, LeO (f k) (f (k + 1))) {k : Nat} {r : α} (h : f k = some r) : Ev f r := ⟨k, fun _ hk => more hm hk h⟩
theorem Ev.step {α : Type} {f g : Nat → Option α} {r : α} (h : Ev g r) (e : ∀ k, f (k + 1) = g k) : Ev f r := by
 obtain ⟨k0, hk⟩ := h
 refine ⟨k0 + 1, fun k hk' => ?_⟩
 obtain ⟨k, rfl⟩ : ∃ k', k = k' + 1 := ⟨k - 1, by omega⟩
 rw [e]; exact hk k (by omega)
theorem Ev.bind {α β : Type} {f : Nat → Option α} {g : Nat → α → Option β} {a : α} {r : β} (h : Ev f a) (h' : Ev (fun k => g k a) r) : Ev (fun k => (f k).bind (g k)) r := by
 obtain ⟨k0, hk⟩ := h
 obtain ⟨k1, hk1⟩ := h'
 refine ⟨k0 + k1, fun k hk' => ?_⟩
 show (f k).bind (g k) = some r
 rw [hk k (by omega), Option.bind_some]
 exact hk1 k (by omega)
theorem valS_congr {n : Nat} {give give' : Nat → Int} {hs hs' : Nat → Nat → Int} {take take' : Nat → Int} (h1 : ∀ h, h < n → give h = give' h) (h2 : ∀ h o, h < n → o < n → hs h o = hs' h o) (h3 : ∀ k, k < n → take k = take' k) (S : Nat → Prop) : valS n give hs take S = valS n give' hs' take' S := by
 unfold valS
 congr 1
 · exact isum_congr (fun k hk => by rw [h3 k hk])
 · refine isum_congr (fun h hh => ?_)
   rw [h1 h hh]
   congr 1
   exact isum_congr (fun o ho => by rw [h2 h o hh ho])
structure Stg (t : List (List Int)) (q : List Int) (P : Nat → Nat → Nat → Int) (g : List Int) (hs : List (List Int)) (tk : List Int) : Prop where
 lg : g.length = t.length
 lt : tk.length = t.length
 sq : A.Sqn t.length hs
 eg : ∀ i : Nat, i < t.length → rd g i = giveAt t.length (A.heldT t) q P i
 eh : ∀ i j : Nat, i < t.length → j < t.length → A.get hs i j = hsAt t.length t P i j
 et : ∀ i : Nat, i < t.length → rd tk i = takeAt t.length (A.heldT t) q P i
structure Nn (t : List (List Int)) (q : List Int) (P : Nat → Nat → Nat → Int) : Prop where
 p0 : ∀ f o k, 0 ≤ P f o k
 g0 : ∀ h, h < t.length → 0 ≤ giveAt t.length (A.heldT t) q P h
 h0 : ∀ h o, h < t.length → o < t.length → 0 ≤ hsAt t.length t P h o
 t0 : ∀ k, k < t.length → 0 ≤ takeAt t.length (A.heldT t) q P k
section
variable {t : List (List Int)} {q : List Int} (hf : A.fitsT t q = true) (hn : t.length ≤ 6) (hsm : ∀ i j : Nat, i < t.length → j < t.length → A.get t i j ≤ 1000)
theorem at_bump (P : Nat → Nat → Nat → Int) {h o k : Nat} (hh : h < t.length) (ho : o < t.length) (hk : k < t.length) (x : Int) :
 (∀ d, giveAt t.length (A.heldT t) q (bump P h o k x) d = giveAt t.length (A.heldT t) q P d - (if d = h then x else 0)) ∧
 (∀ d o', hsAt t.length t (bump P h o k x) d o' = hsAt t.length t P d o' - (if d = h ∧ o' = o then x else 0)) ∧
 (∀ d, takeAt t.length (A.heldT t) q (bump P h o k x) d = takeAt t.length (A.heldT t) q P d - (if d = k then x else 0)) := by
 refine ⟨fun d => ?_, fun d o' => ?_, fun d => ?_⟩
 · unfold giveAt
   rw [bump_give' P x hk ho d]; omega
 · unfold hsAt
   rw [bump_row P x hk d o']; omega
 · unfold takeAt
   rw [bump_take P x hh ho d]; omega
theorem Nn.up {P : Nat → Nat → Nat → Int} (h : Nn t q P) {f o k : Nat} (hh : f < t.length) (ho : o < t.length) (hk : k < t.length) {x : Int} (x0 : 0 ≤ x) (x1 : x ≤ giveAt t.length (A.heldT t) q P f) (x2 : x ≤ hsAt t.length t P f o) (x3 : x ≤ takeAt t.length (A.heldT t) q P k) : Nn t q (bump P f o k x) := by
 obtain ⟨e1, e2, e3⟩ := at_bump (t := t) (q := q) P hh ho hk x
 refine ⟨fun f' o' k' => ?_, fun d hd => ?_, fun d o' hd ho' => ?_, fun d hd => ?_⟩
 · have := h.p0 f' o' k'
   unfold bump
   split <;> omega
 · rw [e1]
   by_cases c : d = f
   · subst c; rw [if_pos rfl]; omega
   · rw [if_neg c]; have := h.g0 d hd; omega
 · rw [e2]
   by_cases c : d = f ∧ o' = o
   · obtain ⟨rfl, rfl⟩ := c; rw [if_pos ⟨rfl, rfl⟩]; omega
   · rw [if_neg c]; have := h.h0 d o' hd ho'; omega
 · rw [e3]
   by_cases c : d = k
   · subst c; rw [if_pos rfl]; omega
   · rw [if_neg c]; have := h.t0 d hd; omega
include hf hn hsm
theorem flow_st {P : Nat → Nat → Nat → Int} (hN : Nn t q P) {g : List Int} {hs : List (List Int)} {tk : List Int} (h : Stg t q P g hs tk) :
 ∃ F, Ev (fun k => kinkeepref35_relief_flow.f k g hs tk) F ∧ ∀ D : Int, D ≤ F ↔ ∀ S : Nat → Prop, D ≤ valS t.length (giveAt t.length (A.heldT t) q P) (hsAt t.length t P) (takeAt t.length (A.heldT t) q P) S := by
 obtain ⟨r1, r2, r3⟩ := base_range hf hsm P hN.p0 hN.g0 hN.h0 hN.t0
 have lg := h.lg
 obtain ⟨F, ⟨k, hk⟩, F0, hF⟩ := flow_f g hs tk (by omega) (by rw [h.lt, lg]) (by rw [h.sq.1, lg]) (fun i hi => by rw [h.sq.2 i (by omega) (by omega), lg])
  (fun i hi => by rw [h.eg i (by omega)]; have := r1 i (by omega); omega) (fun i hi => by rw [h.et i (by omega)]; exact r3 i (by omega)) (fun i j hi hj => by rw [h.eh i j (by omega) (by omega)]; have := r2 i j (by omega) (by omega); omega)
 refine ⟨F, Ev.of (fun k => kinkeepref35_relief_flow.mono g hs tk k) hk, fun D => (hF D).trans ?_⟩
 rw [lg]
 have e := fun S => valS_congr (n := t.length) (give := fun h => rd g h) (hs := fun h o => A.get hs h o) (take := fun k => rd tk k) h.eg h.eh h.et S
 constructor
 · intro a S; rw [← e S]; exact a S
 · intro a S; rw [e S]; exact a S
theorem moved_st {P : Nat → Nat → Nat → Int} (hN : Nn t q P) {g : List Int} {hs : List (List Int)} {tk : List Int} (h : Stg t q P g hs tk) {f o k : Nat} (hh : f < t.length) (ho : o < t.length) (hk : k < t.length) {x : Int} (x0 : 0 ≤ x) (x1 : x ≤ giveAt t.length (A.heldT t) q P f) (x2 : x ≤ hsAt t.length t P f o) (x3 : x ≤ takeAt t.length (A.heldT t) q P k) :
 ∃ r, Ev (fun n => kinkeepref35_relief_moved.f n g hs tk f o k x) r ∧ Stg t q (bump P f o k x) r.1 r.2.1 r.2.2 := by
 obtain ⟨r1, r2, r3⟩ := base_range hf hsm P hN.p0 hN.g0 hN.h0 hN.t0
 obtain ⟨e1, e2, e3⟩ := at_bump (t := t) (q := q) P hh ho hk x
 have lg := h.lg
 have ltk := h.lt
 have lhs := h.sq.1
 obtain ⟨k0, hc⟩ := clone_f hs (by omega) (fun i hi => by rw [h.sq.2 i (by omega) (by omega)]; omega)
 have hEv : Ev (fun n => kinkeepref35_Clone.f n hs) hs := Ev.of (fun n => kinkeepref35_Clone.mono hs n) hc
 have lr : (rd_L1 hs f).length = t.length := h.sq.2 f (by omega) (by omega)
 have b1 := r1 f hh
 have b2 := r2 f o hh ho
 have b3 := r3 k hk
 rw [← h.eg f hh] at x1 b1
 have x2' := x2
 rw [← h.eh f o hh ho] at x2' b2
 rw [← h.et k hk] at x3 b3
 unfold A.get at x2' b2
 refine ⟨(g.set (f : Int).toNat (rd g f - x), hs.set (f : Int).toNat ((rd_L1 hs f).set (o : Int).toNat (rd (rd_L1 hs f) o - x)), tk.set (k : Int).toNat (rd tk k - x)), ?_, ⟨by simp [lg], by simp [ltk], ?_, fun i hi => ?_, fun i j hi hj => ?_, fun i hi => ?_⟩⟩
 · obtain ⟨k0, hk0⟩ := hEv
   refine ⟨k0, fun n hn' => ?_⟩
   have e : kinkeepref35_Clone.f n hs = some hs := hk0 n hn'
   show kinkeepref35_relief_moved.f n g hs tk f o k x = _
   unfold kinkeepref35_relief_moved.f
   simp only [Option.bind_some]
   rw [if_pos (by simp; omega), e, Option.bind_some, if_pos (by simp; omega)]
   simp only [List.nil_append]
   rw [if_pos (by omega), if_pos (by omega), if_pos (by omega), if_pos (by omega), if_pos (by omega), if_pos (by omega), if_pos (by omega), w64 (by omega), w64 (by omega), w64 (by omega)]
 · exact A.Sqn.upd h.sq f o _
 · show rd (g.set (f : Int).toNat (rd g f - x)) i = _
   rw [A.rd_set g f i _ (by omega) (by omega) (by omega), e1 i]
   by_cases c : i = f
   · subst c; rw [if_pos rfl, if_pos rfl, h.eg i hi]
   · rw [if_neg (by omega), if_neg c, h.eg i hi]; omega
 · have := A.get_upd h.sq f o (rd (rd_L1 hs f) o - x) i j (by omega) (by omega) (by omega) (by omega) (by omega) (by omega)
   refine this.trans ?_
   rw [e2 i j]
   by_cases c : i = f ∧ j = o
   · obtain ⟨rfl, rfl⟩ := c
     rw [if_pos ⟨rfl, rfl⟩, if_pos ⟨rfl, rfl⟩, ← h.eh i j hi hj]; rfl
   · rw [if_neg (by omega), if_neg c, h.eh i j hi hj]; omega
 · show rd (tk.set (k : Int).toNat (rd tk k - x)) i = _
   rw [A.rd_set tk k i _ (by omega) (by omega) (by omega), e3 i]
   by_cases c : i = k
   · subst c; rw [if_pos rfl, if_pos rfl, h.et i hi]
   · rw [if_neg (by omega), if_neg c, h.et i hi]; omega
end
def PP (B : Nat → Nat → Nat → Int) (h o k : Nat) : Nat → Nat → Nat → Int := fun f' o' k' => if lexlt f' o' k' h o k then B f' o' k' else 0
theorem PP_at {B : Nat → Nat → Nat → Int} {h o k f' o' k' : Nat} (c : lexlt f' o' k' h o k) : PP B h o k f' o' k' = B f' o' k' := if_pos c
theorem PP_no {B : Nat → Nat → Nat → Int} {h o k f' o' k' : Nat} (c : ¬ lexlt f' o' k' h o k) : PP B h o k f' o' k' = 0 := if_neg c
theorem PP_step (B : Nat → Nat → Nat → Int) (h o k : Nat) : PP B h o (k + 1) = bump (PP B h o k) h o k (B h o k) := by
 funext f' o' k'
 unfold bump
 by_cases c : f' = h ∧ o' = o ∧ k' = k
 · obtain ⟨rfl, rfl, rfl⟩ := c
   rw [if_pos ⟨rfl, rfl, rfl⟩, PP_at (by unfold lexlt; omega), PP_no (by unfold lexlt; omega)]; omega
 · rw [if_neg c]
   by_cases d : lexlt f' o' k' h o k
   · rw [PP_at d, PP_at (by unfold lexlt at *; omega)]; omega
   · rw [PP_no d, PP_no (by unfold lexlt at *; omega)]; omega
theorem bump_zero (P : Nat → Nat → Nat → Int) (h o k : Nat) : bump P h o k 0 = P := by
 funext f' o' k'
 unfold bump
 split <;> omega
theorem PP_next {n : Nat} {B : Nat → Nat → Nat → Int} (hz : ∀ f o k, B f o k ≠ 0 → f < n ∧ o < n ∧ k < n) (h o : Nat) : PP B h o n = PP B h (o + 1) 0 := by
 funext f' o' k'
 by_cases e : B f' o' k' = 0
 · unfold PP
   rw [e]; simp
 · have := hz _ _ _ e
   by_cases d : lexlt f' o' k' h o n
   · rw [PP_at d, PP_at (by unfold lexlt at *; omega)]
   · rw [PP_no d, PP_no (by unfold lexlt at *; omega)]
theorem PP_nexth {n : Nat} {B : Nat → Nat → Nat → Int} (hz : ∀ f o k, B f o k ≠ 0 → f < n ∧ o < n ∧ k < n) (h : Nat) : PP B h n 0 = PP B (h + 1) 0 0 := by
 funext f' o' k'
 by_cases e : B f' o' k' = 0
 · unfold PP
   rw [e]; simp
 · have := hz _ _ _ e
   by_cases d : lexlt f' o' k' h n 0
   · rw [PP_at d, PP_at (by unfold lexlt at *; omega)]
   · rw [PP_no d, PP_no (by unfold lexlt at *; omega)]
def mk24 (h o k : Nat) (x : Int) : S24 := ⟨(h : Int), (k : Int), (o : Int), x⟩
def ex3 (B : Nat → Nat → Nat → Int) (h o : Nat) : Nat → List S24
 | 0 => []
 | k + 1 => ex3 B h o k ++ (if 0 < B h o k then [mk24 h o k (B h o k)] else [])
def ex2 (n : Nat) (B : Nat → Nat → Nat → Int) (h : Nat) : Nat → List S24
 | 0 => []
 | o + 1 => ex2 n B h o ++ ex3 B h o n
def ex1 (n : Nat) (B : Nat → Nat → Nat → Int) : Nat → List S24
 | 0 => []
 | h + 1 => ex1 n B h ++ ex2 n B h n
theorem ex3_len (B : Nat → Nat → Nat → Int) (h o : Nat) : ∀ k, (ex3 B h o k).length ≤ k
 | 0 => by simp [ex3]
 | k + 1 => by
  have := ex3_len B h o k
  rw [ex3, List.length_append]
  split <;> simp <;> omega
theorem ex2_len (n : Nat) (B : Nat → Nat → Nat → Int) (h : Nat) : ∀ o, (ex2 n B h o).length ≤ o * n
 | 0 => by simp [ex2]
 | o + 1 => by
  have := ex2_len n B h o
  have := ex3_len B h o n
  rw [ex2, List.length_append, Nat.add_mul]; omega
theorem ex1_len (n : Nat) (B : Nat → Nat → Nat → Int) : ∀ h, (ex1 n B h).length ≤ h * (n * n)
 | 0 => by simp [ex1]
 | h + 1 => by
  have := ex1_len n B h
  have := ex2_len n B h n
  rw [ex1, List.length_append, Nat.add_mul]; omega
theorem ex_len {n : Nat} (hn : n ≤ 6) (B : Nat → Nat → Nat → Int) {h o k : Nat} (hh : h ≤ n) (ho : o ≤ n) (hk : k ≤ n) : (ex1 n B h ++ (ex2 n B h o ++ ex3 B h o k)).length < 4398046511104 := by
 have a := ex1_len n B h
 have b := ex2_len n B h o
 have c := ex3_len B h o k
 have d : h * (n * n) ≤ 6 * (6 * 6) := Nat.mul_le_mul (by omega) (Nat.mul_le_mul hn hn)
 have e : o * n ≤ 6 * 6 := Nat.mul_le_mul (by omega) hn
 rw [List.length_append, List.length_append]; omega
section
variable {t : List (List Int)} {q : List Int} (hf : A.fitsT t q = true) (hn : t.length ≤ 6) (hsm : ∀ i j : Nat, i < t.length → j < t.length → A.get t i j ≤ 1000)
 {B : Nat → Nat → Nat → Int} (hB : Feas t.length (A.heldT t) q t B)
theorem PP_nn (hB : Feas t.length (A.heldT t) q t B) (h o k : Nat) : Nn t q (PP B h o k) ∧ (∀ f o' k', PP B h o k f o' k' ≤ B f o' k') ∧
 (h < t.length → o < t.length → k < t.length → B h o k ≤ giveAt t.length (A.heldT t) q (PP B h o k) h ∧ B h o k ≤ hsAt t.length t (PP B h o k) h o ∧ B h o k ≤ takeAt t.length (A.heldT t) q (PP B h o k) k) ∧
 tot t.length (PP B h o k) ≤ overAll t.length (A.heldT t) q ∧ 0 ≤ tot t.length (PP B h o k) := by
 have hB0 := hB.m0
 have p0 : ∀ f o' k', 0 ≤ PP B h o k f o' k' := fun f o' k' => by
  have := hB0 f o' k'
  unfold PP
  split <;> omega
 have pB : ∀ f o' k', PP B h o k f o' k' ≤ B f o' k' := fun f o' k' => by
  have := hB0 f o' k'
  unfold PP
  split <;> omega
 have hA := asg_rest hB pB p0
 have r00 : ∀ f o' k', 0 ≤ B f o' k' - PP B h o k f o' k' := fun f o' k' => by have := pB f o' k'; omega
 have r0 : ∀ f o', 0 ≤ isum (fun k' => B f o' k' - PP B h o k f o' k') t.length := fun f o' => isum_nonneg (fun k' _ => r00 f o' k')
 have ht : 0 ≤ tot t.length (fun f o' k' => B f o' k' - PP B h o k f o' k') := isum_nonneg (fun f _ => isum_nonneg (fun o' _ => r0 f o'))
 rw [tot_sub, tot_feas hB] at ht
 refine ⟨⟨p0, fun d hd => ?_, fun d o' hd ho' => ?_, fun d hd => ?_⟩, pB, fun hh ho hk => ⟨?_, ?_, ?_⟩, by omega, isum_nonneg (fun f _ => isum_nonneg (fun o' _ => isum_nonneg (fun k' _ => p0 f o' k')))⟩
 · have := hA.yg d hd
   have := isum_nonneg (n := t.length) (f := fun o' => isum (fun k' => B d o' k' - PP B h o k d o' k') t.length) (fun o' _ => r0 d o')
   omega
 · have := hA.yh d o' hd ho'
   have := r0 d o'
   omega
 · have := hA.yt d hd
   have := isum_nonneg (n := t.length) (f := fun f => isum (fun o' => B f o' d - PP B h o k f o' d) t.length) (fun f _ => isum_nonneg (fun o' _ => r00 f o' d))
   omega
 all_goals have e0 : PP B h o k h o k = 0 := PP_no (by unfold lexlt; omega)
 · have h1 := hA.yg h hh
   have h2 := isum_one (n := t.length) (f := fun o' => isum (fun k' => B h o' k' - PP B h o k h o' k') t.length) o ho (fun o' _ => r0 h o')
   have h3 := isum_one (n := t.length) (f := fun k' => B h o k' - PP B h o k h o k') k hk (fun k' _ => r00 h o k')
   try simp only at h1 h2 h3
   rw [e0] at h3
   omega
 · have h1 := hA.yh h o hh ho
   have h3 := isum_one (n := t.length) (f := fun k' => B h o k' - PP B h o k h o k') k hk (fun k' _ => r00 h o k')
   try simp only at h1 h3
   rw [e0] at h3
   omega
 · have h1 := hA.yt k hk
   have h2 := isum_one (n := t.length) (f := fun f => isum (fun o' => B f o' k - PP B h o k f o' k) t.length) h hh (fun f _ => isum_nonneg (fun o' _ => r00 f o' k))
   have h3 := isum_one (n := t.length) (f := fun o' => B h o' k - PP B h o k h o' k) o ho (fun o' _ => r00 h o' k)
   try simp only at h1 h2 h3
   rw [e0] at h3
   omega
theorem mn3 (a b c : Int) : mn (mn a b) c ≤ a ∧ mn (mn a b) c ≤ b ∧ mn (mn a b) c ≤ c ∧ ∀ d, d ≤ a → d ≤ b → d ≤ c → d ≤ mn (mn a b) c := by
 unfold mn
 split <;> split <;> refine ⟨by omega, by omega, by omega, fun d _ _ _ => by omega⟩
def needAt (t : List (List Int)) (q : List Int) (B : Nat → Nat → Nat → Int) (h o k : Nat) : Int := overAll t.length (A.heldT t) q - tot t.length (PP B h o k)
variable (hmax : ∀ M, Feas t.length (A.heldT t) q t M → (∀ f o k, M f o k ≤ A.unlim) → ∀ f o k, f < t.length → o < t.length → k < t.length → okM (A.heldT t) q f o k → (∀ f' o' k', lexlt f' o' k' f o k → M f' o' k' = B f' o' k') → M f o k ≤ B f o k)
include hf hn hsm hB hmax
theorem l4_run {h o k : Nat} (hh : h < t.length) (ho : o < t.length) (hk : k < t.length) (e1 : o ≠ h) (e2 : k ≠ h) (e3 : k ≠ o) {g : List Int} {hs : List (List Int)} {tk : List Int} (hS : Stg t q (PP B h o k) g hs tk) {out : List S24} (hl : out.length < 4398046511104) {R : List S24 × Bool}
 (next : ∀ g' hs' tk', Stg t q (PP B h o (k + 1)) g' hs' tk' → Ev (fun f => kinkeepref35_Settle.l3 f t.length (needAt t q B h o (k + 1)) (out ++ (if 0 < B h o k then [mk24 h o k (B h o k)] else [])) h o ((k + 1 : Nat) : Int) g' hs' tk') R) :
 ∀ (m : Nat) (x : Int), x - B h o k ≤ m → B h o k ≤ x → x ≤ giveAt t.length (A.heldT t) q (PP B h o k) h → x ≤ hsAt t.length t (PP B h o k) h o → x ≤ takeAt t.length (A.heldT t) q (PP B h o k) k → Ev (fun f => kinkeepref35_Settle.l4 f t.length (needAt t q B h o k) out h o k x g hs tk) R := by
 obtain ⟨hN, hPB, _, hT1, hT0⟩ := PP_nn hB h o k
 have hb0 := hB.m0 h o k
 obtain ⟨q1, q2, q3⟩ := base_range hf hsm _ hN.p0 hN.g0 hN.h0 hN.t0
 have hob := over_bound hf hsm (fun _ _ _ => 0) (fun _ _ _ => rfl)
 have hw : wrap64 ((k : Int) + 1) = ((k + 1 : Nat) : Int) := by rw [w64 (by omega)]; rfl
 have hneed : needAt t q B h o (k + 1) = needAt t q B h o k - B h o k := by
  unfold needAt
  rw [PP_step, bump_tot _ _ hh hk ho]; omega
 have zero : B h o k ≤ 0 → Ev (fun f => kinkeepref35_Settle.l4 f t.length (needAt t q B h o k) out h o k 0 g hs tk) R := fun c => by
  have e0 : B h o k = 0 := by omega
  have hn' := next g hs tk (by rw [PP_step, e0, bump_zero]; exact hS)
  rw [hneed, e0, if_neg (by omega), List.append_nil, Int.sub_zero] at hn'
  refine hn'.step (fun f => ?_)
  rw [kinkeepref35_Settle.l4, if_neg (by omega), hw]
 have pos : ∀ x : Int, 0 < x → B h o k ≤ x → x ≤ giveAt t.length (A.heldT t) q (PP B h o k) h → x ≤ hsAt t.length t (PP B h o k) h o → x ≤ takeAt t.length (A.heldT t) q (PP B h o k) k →
  (B h o k < x → Ev (fun f => kinkeepref35_Settle.l4 f t.length (needAt t q B h o k) out h o k (x - 1) g hs tk) R) → Ev (fun f => kinkeepref35_Settle.l4 f t.length (needAt t q B h o k) out h o k x g hs tk) R := fun x x0 xb x1 x2 x3 again => by
  obtain ⟨r, hr, hSr⟩ := moved_st hf hn hsm hN hS hh ho hk (by omega) x1 x2 x3
  obtain ⟨F, hF, hFv⟩ := flow_st hf hn hsm (hN.up hh ho hk (by omega) x1 x2 x3) hSr
  have q1' := q1 h hh
  have hwx : wrap64 (needAt t q B h o k - x) = needAt t q B h o k - x := w64 (by unfold needAt; omega)
  have hstep : ∀ f, kinkeepref35_Settle.l4 (f + 1) t.length (needAt t q B h o k) out h o k x g hs tk = (kinkeepref35_relief_moved.f f g hs tk h o k x).bind (fun bt184 => (kinkeepref35_relief_flow.f f bt184.1 bt184.2.1 bt184.2.2).bind fun t193 => (if t193 < (wrap64 (needAt t q B h o k - x)) then (kinkeepref35_Settle.l4 f t.length (needAt t q B h o k) out h o k (wrap64 (x - 1)) g hs tk) else ((kinkeepref35_relief_moved.f f g hs tk h o k x).bind fun bt194 => (if out.length < 4398046511104 then (kinkeepref35_Settle.l3 f t.length (wrap64 (needAt t q B h o k - x)) (out ++ [(⟨(h : Int), (k : Int), (o : Int), x⟩ : S24)]) h o (wrap64 ((k : Int) + 1)) bt194.1 bt194.2.1 bt194.2.2) else (none))))) := fun f => by
   rw [kinkeepref35_Settle.l4, if_pos x0]
  by_cases c : B h o k < x
  · obtain ⟨S, hSv⟩ := too_much hf hsm hB hmax hh ho hk ⟨e2, e3⟩ e1 (P := PP B h o k) rfl x c x1 x2 x3
    have hlt : F < needAt t q B h o k - x := by
     unfold needAt
     have := (hFv F).1 (Int.le_refl _) S
     omega
    refine Ev.step (g := fun f => (kinkeepref35_relief_moved.f f g hs tk h o k x).bind (fun bt184 => (kinkeepref35_relief_flow.f f bt184.1 bt184.2.1 bt184.2.2).bind fun t193 => (if t193 < (wrap64 (needAt t q B h o k - x)) then (kinkeepref35_Settle.l4 f t.length (needAt t q B h o k) out h o k (wrap64 (x - 1)) g hs tk) else ((kinkeepref35_relief_moved.f f g hs tk h o k x).bind fun bt194 => (if out.length < 4398046511104 then (kinkeepref35_Settle.l3 f t.length (wrap64 (needAt t q B h o k - x)) (out ++ [(⟨(h : Int), (k : Int), (o : Int), x⟩ : S24)]) h o (wrap64 ((k : Int) + 1)) bt194.1 bt194.2.1 bt194.2.2) else (none)))))) ?_ hstep
    refine Ev.bind hr (Ev.bind hF ?_)
    have ha := again c
    rw [hwx]
    simp only [if_pos hlt]
    rw [w64 (x := x - 1) (by omega)]
    exact ha
  · obtain rfl : x = B h o k := by omega
    obtain ⟨_, hPB', _⟩ := PP_nn hB h o (k + 1)
    have hle : needAt t q B h o k - B h o k ≤ F := by
     refine (hFv _).2 (fun S => ?_)
     have := rest_le hB hPB' (PP_nn hB h o (k + 1)).1.p0 S
     rw [← hneed]
     unfold needAt
     rw [← PP_step]
     exact this
    have hn' := next r.1 r.2.1 r.2.2 (by rw [PP_step]; exact hSr)
    rw [hneed, if_pos x0] at hn'
    refine Ev.step (g := fun f => (kinkeepref35_relief_moved.f f g hs tk h o k (B h o k)).bind (fun bt184 => (kinkeepref35_relief_flow.f f bt184.1 bt184.2.1 bt184.2.2).bind fun t193 => (if t193 < (wrap64 (needAt t q B h o k - B h o k)) then (kinkeepref35_Settle.l4 f t.length (needAt t q B h o k) out h o k (wrap64 (B h o k - 1)) g hs tk) else ((kinkeepref35_relief_moved.f f g hs tk h o k (B h o k)).bind fun bt194 => (if out.length < 4398046511104 then (kinkeepref35_Settle.l3 f t.length (wrap64 (needAt t q B h o k - B h o k)) (out ++ [(⟨(h : Int), (k : Int), (o : Int), (B h o k)⟩ : S24)]) h o (wrap64 ((k : Int) + 1)) bt194.1 bt194.2.1 bt194.2.2) else (none)))))) ?_ hstep
    refine Ev.bind hr (Ev.bind hF ?_)
    rw [hwx]
    simp only [if_neg (show ¬ F < needAt t q B h o k - B h o k by omega)]
    refine Ev.bind hr ?_
    simp only [if_pos hl, hw]
    exact hn'
 intro m
 induction m with
 | zero =>
  intro x hm hx x1 x2 x3
  by_cases c : 0 < x
  · exact pos x c hx x1 x2 x3 (fun e => by omega)
  · obtain rfl : x = 0 := by omega
    exact zero hx
 | succ m ih =>
  intro x hm hx x1 x2 x3
  by_cases c : 0 < x
  · exact pos x c hx x1 x2 x3 (fun e => ih (x - 1) (by omega) (by omega) (by omega) (by omega) (by omega))
  · obtain rfl : x = 0 := by omega
    exact zero hx
theorem l3_run {h o : Nat} (hh : h < t.length) (ho : o < t.length) {R : List S24 × Bool}
 (next : ∀ g' hs' tk', Stg t q (PP B h (o + 1) 0) g' hs' tk' → Ev (fun f => kinkeepref35_Settle.l2 f t.length (needAt t q B h (o + 1) 0) (ex1 t.length B h ++ ex2 t.length B h (o + 1)) h ((o + 1 : Nat) : Int) g' hs' tk') R) :
 ∀ (m k : Nat), t.length - k ≤ m → k ≤ t.length → ∀ g hs tk, Stg t q (PP B h o k) g hs tk → Ev (fun f => kinkeepref35_Settle.l3 f t.length (needAt t q B h o k) (ex1 t.length B h ++ (ex2 t.length B h o ++ ex3 B h o k)) h o k g hs tk) R := by
 have ends : ∀ (k : Nat), ¬ k < t.length → k ≤ t.length → ∀ g hs tk, Stg t q (PP B h o k) g hs tk → Ev (fun f => kinkeepref35_Settle.l3 f t.length (needAt t q B h o k) (ex1 t.length B h ++ (ex2 t.length B h o ++ ex3 B h o k)) h o k g hs tk) R := fun k hk1 hk2 g hs tk hS => by
  obtain rfl : k = t.length := by omega
  have e := PP_next (fun f o k hne => ⟨(hB.mz f o k hne).1, (hB.mz f o k hne).2.1, (hB.mz f o k hne).2.2.1⟩) h o
  have hn' := next g hs tk (by rw [← e]; exact hS)
  have e4 : needAt t q B h o t.length = needAt t q B h (o + 1) 0 := by unfold needAt; rw [e]
  refine hn'.step (fun f => ?_)
  rw [kinkeepref35_Settle.l3, if_neg (by omega), w64 (x := (o : Int) + 1) (by omega), e4]
  rfl
 intro m
 induction m with
 | zero => intro k hm hk; exact ends k (by omega) hk
 | succ m ih =>
  intro k hm hk g hs tk hS
  by_cases hlt : k < t.length
  · have hw : wrap64 ((k : Int) + 1) = ((k + 1 : Nat) : Int) := by rw [w64 (by omega)]; rfl
    have h1 := ih (k + 1) (by omega) (by omega)
    by_cases c : h = o ∨ h = k ∨ o = k
    · have e0 : B h o k = 0 := by
       by_cases e : B h o k = 0
       · exact e
       · have := (hB.mz h o k e).2.2.2
         obtain ⟨_, a, b, d, _⟩ := this
         omega
      have hn' := h1 g hs tk (by rw [PP_step, e0, bump_zero]; exact hS)
      have hneed : needAt t q B h o (k + 1) = needAt t q B h o k := by
       unfold needAt
       rw [PP_step, e0, bump_zero]
      rw [hneed, ex3, if_neg (by omega), List.append_nil] at hn'
      have hj : Ev (fun f => kinkeepref35_Settle.j4 f t.length (needAt t q B h o k) (ex1 t.length B h ++ (ex2 t.length B h o ++ ex3 B h o k)) h o k true g hs tk) R := hn'.step (fun f => by rw [kinkeepref35_Settle.j4, if_pos rfl, hw])
      refine hj.step (fun f => ?_)
      rw [kinkeepref35_Settle.l3, if_pos (by omega)]
      by_cases c1 : h = o
      · rw [if_pos (by omega)]
      · rw [if_neg (by omega)]
        by_cases c2 : h = k
        · rw [if_pos (by omega)]
        · rw [if_neg (by omega), show ((o : Int) == (k : Int)) = true from beq_iff_eq.2 (by omega)]
    · obtain ⟨hN, _, hle, _, _⟩ := PP_nn hB h o k
      obtain ⟨b1, b2, b3⟩ := hle hh ho hlt
      have eg := hS.eg h hh
      have eh := hS.eh h o hh ho
      have et := hS.et k hlt
      obtain ⟨m1, m2, m3, m4⟩ := mn3 (rd g h) (rd (rd_L1 hs h) o) (rd tk k)
      have eh' : rd (rd_L1 hs h) o = hsAt t.length t (PP B h o k) h o := eh
      have m5 := m4 (B h o k) (by rw [eg]; exact b1) (by rw [eh']; exact b2) (by rw [et]; exact b3)
      have h4 := l4_run hf hn hsm hB hmax hh ho hlt (by omega) (by omega) (by omega) hS (out := ex1 t.length B h ++ (ex2 t.length B h o ++ ex3 B h o k)) (ex_len hn B (by omega) (by omega) (by omega)) (R := R) (fun g' hs' tk' hS' => by
        have := h1 g' hs' tk' hS'
        have e : ex1 t.length B h ++ (ex2 t.length B h o ++ ex3 B h o (k + 1)) = (ex1 t.length B h ++ (ex2 t.length B h o ++ ex3 B h o k)) ++ (if 0 < B h o k then [mk24 h o k (B h o k)] else []) := by
          rw [ex3, List.append_assoc, List.append_assoc]
        rw [e] at this
        exact this) (mn (mn (rd g h) (rd (rd_L1 hs h) o)) (rd tk k) - B h o k).toNat (mn (mn (rd g h) (rd (rd_L1 hs h) o)) (rd tk k)) (by omega) m5 (by rw [← eg]; exact m1) (by rw [← eh']; exact m2) (by rw [← et]; exact m3)
      have lr := hS.sq.2 h (by omega) (by omega)
      have lg := hS.lg
      have ltk := hS.lt
      have lhs := hS.sq.1
      have hj : Ev (fun f => kinkeepref35_Settle.j4 f t.length (needAt t q B h o k) (ex1 t.length B h ++ (ex2 t.length B h o ++ ex3 B h o k)) h o k false g hs tk) R := h4.step (fun f => by
        rw [kinkeepref35_Settle.j4, if_neg (by simp), if_pos (by omega), if_pos (by omega), if_pos (by omega), if_pos (by omega), if_pos (by omega), if_pos (by omega), if_pos (by omega)])
      refine hj.step (fun f => ?_)
      rw [kinkeepref35_Settle.l3, if_pos (by omega), if_neg (by omega), if_neg (by omega), show ((o : Int) == (k : Int)) = false from beq_eq_false_iff_ne.2 (by omega)]
  · exact ends k hlt hk g hs tk hS
theorem l2_run {h : Nat} (hh : h < t.length) {R : List S24 × Bool}
 (next : ∀ g' hs' tk', Stg t q (PP B (h + 1) 0 0) g' hs' tk' → Ev (fun f => kinkeepref35_Settle.l1 f t.length (needAt t q B (h + 1) 0 0) (ex1 t.length B (h + 1)) ((h + 1 : Nat) : Int) g' hs' tk') R) :
 ∀ (m o : Nat), t.length - o ≤ m → o ≤ t.length → ∀ g hs tk, Stg t q (PP B h o 0) g hs tk → Ev (fun f => kinkeepref35_Settle.l2 f t.length (needAt t q B h o 0) (ex1 t.length B h ++ ex2 t.length B h o) h o g hs tk) R := by
 have ends : ∀ (o : Nat), ¬ o < t.length → o ≤ t.length → ∀ g hs tk, Stg t q (PP B h o 0) g hs tk → Ev (fun f => kinkeepref35_Settle.l2 f t.length (needAt t q B h o 0) (ex1 t.length B h ++ ex2 t.length B h o) h o g hs tk) R := fun o hk1 hk2 g hs tk hS => by
  obtain rfl : o = t.length := by omega
  have e := PP_nexth (fun f o k hne => ⟨(hB.mz f o k hne).1, (hB.mz f o k hne).2.1, (hB.mz f o k hne).2.2.1⟩) h
  have hn' := next g hs tk (by rw [← e]; exact hS)
  have e4 : needAt t q B h t.length 0 = needAt t q B (h + 1) 0 0 := by unfold needAt; rw [e]
  refine hn'.step (fun f => ?_)
  rw [kinkeepref35_Settle.l2, if_neg (by omega), w64 (x := (h : Int) + 1) (by omega), e4]
  rfl
 intro m
 induction m with
 | zero => intro o hm ho; exact ends o (by omega) ho
 | succ m ih =>
  intro o hm ho g hs tk hS
  by_cases hlt : o < t.length
  · have h3 := l3_run hf hn hsm hB hmax hh hlt (R := R) (fun g' hs' tk' hS' => ih (o + 1) (by omega) (by omega) g' hs' tk' hS') t.length 0 (by omega) (by omega) g hs tk hS
    rw [ex3, List.append_nil] at h3
    exact h3.step (fun f => by rw [kinkeepref35_Settle.l2, if_pos (by omega)]; rfl)
  · exact ends o hlt ho g hs tk hS
theorem l1_run : ∀ (m h : Nat), t.length - h ≤ m → h ≤ t.length → ∀ g hs tk, Stg t q (PP B h 0 0) g hs tk → Ev (fun f => kinkeepref35_Settle.l1 f t.length (needAt t q B h 0 0) (ex1 t.length B h) h g hs tk) (ex1 t.length B t.length, true) := by
 have ends : ∀ (h : Nat), ¬ h < t.length → h ≤ t.length → ∀ g hs tk, Stg t q (PP B h 0 0) g hs tk → Ev (fun f => kinkeepref35_Settle.l1 f t.length (needAt t q B h 0 0) (ex1 t.length B h) h g hs tk) (ex1 t.length B t.length, true) := fun h hk1 hk2 g hs tk hS => by
  obtain rfl : h = t.length := by omega
  refine ⟨1, fun k hk => ?_⟩
  obtain ⟨k, rfl⟩ : ∃ k', k = k' + 1 := ⟨k - 1, by omega⟩
  show kinkeepref35_Settle.l1 (k + 1) _ _ _ _ _ _ _ = _
  rw [kinkeepref35_Settle.l1, if_neg (by omega)]
 intro m
 induction m with
 | zero => intro h hm hh; exact ends h (by omega) hh
 | succ m ih =>
  intro h hm hh g hs tk hS
  by_cases hlt : h < t.length
  · have h2 := l2_run hf hn hsm hB hmax hlt (fun g' hs' tk' hS' => ih (h + 1) (by omega) (by omega) g' hs' tk' hS') t.length 0 (by omega) (by omega) g hs tk hS
    rw [ex2, List.append_nil] at h2
    exact h2.step (fun f => by rw [kinkeepref35_Settle.l1, if_pos (by omega)]; rfl)
  · exact ends h hlt hh g hs tk hS
end
theorem sorted_ext {α : Type} {lt : α → α → Prop} (irr : ∀ x, ¬ lt x x) (tr : ∀ x y z, lt x y → lt y z → lt x z) : ∀ (a b : List α), a.Pairwise lt → b.Pairwise lt → (∀ x, x ∈ a ↔ x ∈ b) → a = b := by
 intro a
 induction a with
 | nil =>
  intro b _ _ h
  cases b with
  | nil => rfl
  | cons y b => exact absurd ((h y).2 (by simp)) (by simp)
 | cons x a ih =>
  intro b ha hb h
  cases b with
  | nil => exact absurd ((h x).1 (by simp)) (by simp)
  | cons y b =>
   rw [List.pairwise_cons] at ha hb
   have hxy : x = y := by
    rcases List.mem_cons.1 ((h x).1 (by simp)) with e | e
    · exact e
    · rcases List.mem_cons.1 ((h y).2 (by simp)) with e' | e'
      · exact e'.symm
      · exact absurd (tr _ _ _ (ha.1 y e') (hb.1 x e)) (irr x)
   subst hxy
   rw [ih b ha.2 hb.2 (fun z => ?_)]
   constructor
   · intro hz
     rcases List.mem_cons.1 ((h z).1 (List.mem_cons_of_mem _ hz)) with e | e
     · subst e; exact absurd (ha.1 z hz) (irr z)
     · exact e
   · intro hz
     rcases List.mem_cons.1 ((h z).2 (List.mem_cons_of_mem _ hz)) with e | e
     · subst e; exact absurd (hb.1 z hz) (irr z)
     · exact e
def ltM' (x y : S24) : Prop := x.f0 < y.f0 ∨ (x.f0 = y.f0 ∧ (x.f2 < y.f2 ∨ (x.f2 = y.f2 ∧ x.f1 < y.f1)))
def c24 (m : S29) : S24 := ⟨m.f0, m.f1, m.f2, m.f3⟩
theorem ex3_mem (B : Nat → Nat → Nat → Int) (h o : Nat) (m : S24) : ∀ k, m ∈ ex3 B h o k ↔ ∃ k', k' < k ∧ 0 < B h o k' ∧ m = mk24 h o k' (B h o k')
 | 0 => by simp [ex3]
 | k + 1 => by
  rw [ex3, List.mem_append, ex3_mem B h o m k]
  constructor
  · rintro (⟨k', a, b⟩ | e)
    · exact ⟨k', by omega, b⟩
    · by_cases c : 0 < B h o k
      · rw [if_pos c] at e
        exact ⟨k, by omega, c, by simpa using e⟩
      · rw [if_neg c] at e; cases e
  · rintro ⟨k', a, b, e⟩
    by_cases c : k' = k
    · subst c; right; rw [if_pos b]; simpa using e
    · left; exact ⟨k', by omega, b, e⟩
theorem ex2_mem (n : Nat) (B : Nat → Nat → Nat → Int) (h : Nat) (m : S24) : ∀ o, m ∈ ex2 n B h o ↔ ∃ o' k', o' < o ∧ k' < n ∧ 0 < B h o' k' ∧ m = mk24 h o' k' (B h o' k')
 | 0 => by simp [ex2]
 | o + 1 => by
  rw [ex2, List.mem_append, ex2_mem n B h m o, ex3_mem]
  constructor
  · rintro (⟨o', k', a, b⟩ | ⟨k', a, b⟩)
    · exact ⟨o', k', by omega, b⟩
    · exact ⟨o, k', by omega, a, b⟩
  · rintro ⟨o', k', a, b, e⟩
    by_cases c : o' = o
    · subst c; right; exact ⟨k', b, e⟩
    · left; exact ⟨o', k', by omega, b, e⟩
theorem ex1_mem (n : Nat) (B : Nat → Nat → Nat → Int) (m : S24) : ∀ h, m ∈ ex1 n B h ↔ ∃ h' o' k', h' < h ∧ o' < n ∧ k' < n ∧ 0 < B h' o' k' ∧ m = mk24 h' o' k' (B h' o' k')
 | 0 => by simp [ex1]
 | h + 1 => by
  rw [ex1, List.mem_append, ex1_mem n B m h, ex2_mem]
  constructor
  · rintro (⟨h', o', k', a, b⟩ | ⟨o', k', a, b⟩)
    · exact ⟨h', o', k', by omega, b⟩
    · exact ⟨h, o', k', by omega, a, b⟩
  · rintro ⟨h', o', k', a, b, e⟩
    by_cases c : h' = h
    · subst c; right; exact ⟨o', k', b, e⟩
    · left; exact ⟨h', o', k', by omega, b, e⟩
theorem ex3_srt (B : Nat → Nat → Nat → Int) (h o : Nat) : ∀ k, (ex3 B h o k).Pairwise ltM'
 | 0 => List.Pairwise.nil
 | k + 1 => by
  rw [ex3, List.pairwise_append]
  refine ⟨ex3_srt B h o k, by split <;> simp, fun a ha b hb => ?_⟩
  obtain ⟨k', hk, _, rfl⟩ := (ex3_mem B h o a k).1 ha
  by_cases c : 0 < B h o k
  · rw [if_pos c] at hb
    obtain rfl := List.mem_singleton.1 hb
    exact Or.inr ⟨rfl, Or.inr ⟨rfl, Int.ofNat_lt.2 hk⟩⟩
  · rw [if_neg c] at hb; cases hb
theorem ex2_srt (n : Nat) (B : Nat → Nat → Nat → Int) (h : Nat) : ∀ o, (ex2 n B h o).Pairwise ltM'
 | 0 => List.Pairwise.nil
 | o + 1 => by
  rw [ex2, List.pairwise_append]
  refine ⟨ex2_srt n B h o, ex3_srt B h o n, fun a ha b hb => ?_⟩
  obtain ⟨o', k', ho, _, _, rfl⟩ := (ex2_mem n B h a o).1 ha
  obtain ⟨k', _, _, rfl⟩ := (ex3_mem B h o b n).1 hb
  exact Or.inr ⟨rfl, Or.inl (Int.ofNat_lt.2 ho)⟩
theorem ex1_srt (n : Nat) (B : Nat → Nat → Nat → Int) : ∀ h, (ex1 n B h).Pairwise ltM'
 | 0 => List.Pairwise.nil
 | h + 1 => by
  rw [ex1, List.pairwise_append]
  refine ⟨ex1_srt n B h, ex2_srt n B h n, fun a ha b hb => ?_⟩
  obtain ⟨h', o', k', hh, _, _, _, rfl⟩ := (ex1_mem n B a h).1 ha
  obtain ⟨o', k', _, _, _, rfl⟩ := (ex2_mem n B h b n).1 hb
  exact Or.inl (Int.ofNat_lt.2 hh)
open Classical in
theorem sum_mem {n : Nat} (B : Nat → Nat → Nat → Int) (hB : ∀ f o k, 0 ≤ B f o k) (f o : Nat) : ∀ (L : List S29), L.Pairwise ltM → (∀ m ∈ L, ∃ f o k, f < n ∧ o < n ∧ k < n ∧ 0 < B f o k ∧ m = mk29 f o k (B f o k)) →
 (L.map fun m => if m.f0 = (f : Int) ∧ m.f2 = (o : Int) then m.f3 else 0).sum ≤ isum (fun k => if mk29 f o k (B f o k) ∈ L then B f o k else 0) n := by
 intro L
 induction L with
 | nil =>
  intro _ _
  rw [isum_nil (fun k _ => if_neg (by simp))]
  simp
 | cons m L ih =>
  intro hP hm
  rw [List.pairwise_cons] at hP
  have h1 := ih hP.2 (fun x hx => hm x (List.mem_cons_of_mem _ hx))
  obtain ⟨f', o', k', hf, ho, hk, hb, rfl⟩ := hm m (by simp)
  have h2 : isum (fun k => (if mk29 f o k (B f o k) ∈ L then B f o k else 0) + (if k = k' then (if f' = f ∧ o' = o then B f' o' k' else 0) else 0)) n ≤ isum (fun k => if mk29 f o k (B f o k) ∈ mk29 f' o' k' (B f' o' k') :: L then B f o k else 0) n := by
   refine isum_mono (fun k _ => ?_)
   have b0 := hB f o k
   by_cases c : k = k' ∧ f' = f ∧ o' = o
   · obtain ⟨rfl, rfl, rfl⟩ := c
     rw [if_pos rfl, if_pos (show f' = f' ∧ o' = o' from ⟨rfl, rfl⟩), if_neg (fun e => ltM_irr _ (hP.1 _ e)), if_pos (by simp)]; omega
   · have z : (if k = k' then (if f' = f ∧ o' = o then B f' o' k' else 0) else 0) = 0 := by
      by_cases d : k = k'
      · rw [if_pos d, if_neg (fun e => c ⟨d, e⟩)]
      · rw [if_neg d]
     rw [z]
     by_cases d : mk29 f o k (B f o k) ∈ L
     · rw [if_pos d, if_pos (List.mem_cons_of_mem _ d)]; omega
     · rw [if_neg d]
       split <;> omega
  rw [isum_add, isum_pt, if_pos hk] at h2
  rw [List.map_cons, List.sum_cons]
  have e : (if (mk29 f' o' k' (B f' o' k')).f0 = (f : Int) ∧ (mk29 f' o' k' (B f' o' k')).f2 = (o : Int) then (mk29 f' o' k' (B f' o' k')).f3 else 0) = (if f' = f ∧ o' = o then B f' o' k' else 0) := by
   unfold mk29
   simp only
   by_cases c : f' = f ∧ o' = o
   · rw [if_pos c, if_pos (by omega)]
   · rw [if_neg c, if_neg (by omega)]
  rw [e]; omega
open Classical in
theorem moves_eq {n : Nat} {B : Nat → Nat → Nat → Int} (hB : ∀ f o k, 0 ≤ B f o k) {L : List S29} (hP : L.Pairwise ltM) (hm : ∀ m ∈ L, ∃ f o k, f < n ∧ o < n ∧ k < n ∧ 0 < B f o k ∧ m = mk29 f o k (B f o k))
 (hs : ∀ f o : Nat, f < n → o < n → isum (B f o) n = (L.map fun m => if m.f0 = (f : Int) ∧ m.f2 = (o : Int) then m.f3 else 0).sum) : ex1 n B n = L.map c24 := by
 refine sorted_ext (lt := ltM') (fun x h => by unfold ltM' at h; omega) (fun x y z h h' => by unfold ltM' at *; omega) _ _ (ex1_srt n B n) (List.pairwise_map.2 hP) (fun m => ?_)
 rw [ex1_mem, List.mem_map]
 constructor
 · rintro ⟨f, o, k, hf, ho, hk, hb, rfl⟩
   refine ⟨mk29 f o k (B f o k), ?_, rfl⟩
   by_cases c : mk29 f o k (B f o k) ∈ L
   · exact c
   · exfalso
     have h1 := sum_mem (n := n) B hB f o L hP hm
     rw [← hs f o hf ho] at h1
     have h2 : isum (fun k => B f o k - (if mk29 f o k (B f o k) ∈ L then B f o k else 0)) n = isum (B f o) n - isum (fun k => if mk29 f o k (B f o k) ∈ L then B f o k else 0) n := isum_sub _ _ n
     have h3 := isum_one (n := n) (f := fun k => B f o k - (if mk29 f o k (B f o k) ∈ L then B f o k else 0)) k hk (fun i _ => by
       have := hB f o i
       split <;> omega)
     try simp only at h3
     rw [if_neg c] at h3
     omega
 · rintro ⟨m', hm', rfl⟩
   obtain ⟨f, o, k, a, b, c, d, rfl⟩ := hm m' hm'
   exact ⟨f, o, k, a, b, c, d, rfl⟩
section
variable {t : List (List Int)} {q : List Int} (hf : A.fitsT t q = true) (hn : t.length ≤ 6) (hsm : ∀ i j : Nat, i < t.length → j < t.length → A.get t i j ≤ 1000)
include hf hn hsm
omit hf hn hsm in
theorem mx0 (x : Int) : mx 0 x = max 0 x := by unfold mx; split <;> omega
omit hn hsm in
theorem over_range {i : Nat} (hi : i ≤ t.length) (j : Nat) (hj : j < i) : 0 ≤ max 0 (rd (A.heldT t) j - rd q j) ∧ max 0 (rd (A.heldT t) j - rd q j) ≤ 13194139533312 := by
 have c1 := A.quota_bound hf j (by omega) (by omega)
 have c2 := A.held_bound (fit_valid hf) j (by omega) (by omega)
 omega
theorem l0_run {R : List S24 × Bool} (next : ∀ g tk, Stg t q (fun _ _ _ => 0) g t tk → Ev (fun f => (kinkeepref35_relief_flow.f f g t tk).bind fun t176 => (if t176 < overAll t.length (A.heldT t) q then (some (([] : List (S24)), false)) else (kinkeepref35_Settle.l1 f t.length (overAll t.length (A.heldT t) q) [] 0 g t tk))) R) :
 ∀ (m i : Nat), t.length - i ≤ m → i ≤ t.length → ∀ g tk : List Int, g.length = t.length → tk.length = t.length → (∀ j : Nat, j < i → rd g j = max 0 (rd (A.heldT t) j - rd q j)) → (∀ j : Nat, j < i → rd tk j = max 0 (rd q j - rd (A.heldT t) j)) →
  Ev (fun f => kinkeepref35_Settle.l0 f q t.length (A.heldT t) (isum (fun h => max 0 (rd (A.heldT t) h - rd q h)) i) i g t tk) R := by
 have hv := fit_valid hf
 have lq : q.length = t.length := by
  rw [A.fitsT, Bool.and_eq_true, Bool.and_eq_true, decide_eq_true_eq] at hf
  exact hf.2.1
 have lh : (A.heldT t).length = t.length := by simp [A.heldT]
 have z0 : isum (fun _ => (0 : Int)) t.length = 0 := isum_zero _
 have ends : ∀ (i : Nat), ¬ i < t.length → i ≤ t.length → ∀ g tk : List Int, g.length = t.length → tk.length = t.length → (∀ j : Nat, j < i → rd g j = max 0 (rd (A.heldT t) j - rd q j)) → (∀ j : Nat, j < i → rd tk j = max 0 (rd q j - rd (A.heldT t) j)) →
  Ev (fun f => kinkeepref35_Settle.l0 f q t.length (A.heldT t) (isum (fun h => max 0 (rd (A.heldT t) h - rd q h)) i) i g t tk) R := fun i h1 h2 g tk h3 h4 h5 h6 => by
  obtain rfl : i = t.length := by omega
  refine Ev.step (next g tk ⟨h3, h4, (A.valid_good hv).1, fun i hi => ?_, fun i j hi hj => ?_, fun i hi => ?_⟩) (fun f => ?_)
  · rw [h5 i hi]
    unfold giveAt
    rw [isum_nil (fun o _ => z0)]; omega
  · unfold hsAt
    rw [z0]; omega
  · rw [h6 i hi]
    unfold takeAt
    rw [isum_nil (fun o _ => z0)]; omega
  · rw [kinkeepref35_Settle.l0, if_neg (by omega)]
    rfl
 intro m
 induction m with
 | zero => intro i hm hi; exact ends i (by omega) hi
 | succ m ih =>
  intro i hm hi g tk h3 h4 h5 h6
  by_cases hlt : i < t.length
  · have g5 : ∀ j : Nat, j < i + 1 → rd (g.set (i : Int).toNat (max 0 (rd (A.heldT t) i - rd q i))) j = max 0 (rd (A.heldT t) j - rd q j) := fun j hj => by
     rw [A.rd_set _ _ _ _ (by omega) (by omega) (by omega)]
     by_cases c : j = i
     · subst c; rw [if_pos rfl]
     · rw [if_neg (by omega)]; exact h5 j (by omega)
    have g6 : ∀ j : Nat, j < i + 1 → rd (tk.set (i : Int).toNat (max 0 (rd q i - rd (A.heldT t) i))) j = max 0 (rd q j - rd (A.heldT t) j) := fun j hj => by
     rw [A.rd_set _ _ _ _ (by omega) (by omega) (by omega)]
     by_cases c : j = i
     · subst c; rw [if_pos rfl]
     · rw [if_neg (by omega)]; exact h6 j (by omega)
    obtain ⟨k0, hk0⟩ := ih (i + 1) (by omega) (by omega) (g.set (i : Int).toNat (max 0 (rd (A.heldT t) i - rd q i))) (tk.set (i : Int).toNat (max 0 (rd q i - rd (A.heldT t) i))) (by simp [h3]) (by simp [h4]) g5 g6
    refine ⟨k0 + 1, fun k hk => ?_⟩
    obtain ⟨k, rfl⟩ : ∃ k', k = k' + 1 := ⟨k - 1, by omega⟩
    have e := hk0 k (by omega)
    have b1 := A.quota_bound hf i (by omega) (by omega)
    have b2 := A.held_bound hv i (by omega) (by omega)
    have f1 : (i : Int) < (t.length : Int) := by omega
    have f2 : (0 : Int) ≤ (i : Int) := by omega
    have f3 : (i : Int) < ((A.heldT t).length : Int) := by omega
    have f4 : (i : Int) < (q.length : Int) := by omega
    have f5 : (i : Int) < (g.length : Int) := by omega
    have f6 : (i : Int) < (tk.length : Int) := by omega
    have hi6 : (i : Int) ≤ 6 := by omega
    have hw : wrap64 ((i : Int) + 1) = ((i + 1 : Nat) : Int) := by rw [w64 (by omega)]; rfl
    show kinkeepref35_Settle.l0 (k + 1) _ _ _ _ _ _ _ _ = _
    rw [kinkeepref35_Settle.l0, if_pos f1, if_pos f2, if_pos f3, if_pos f4, if_pos f5, if_pos f6, hw]
    have hsum := isum_bound (fun h => max 0 (rd (A.heldT t) h - rd q h)) 13194139533312 i (over_range hf hi)
    have hstep : isum (fun h => max 0 (rd (A.heldT t) h - rd q h)) (i + 1) = isum (fun h => max 0 (rd (A.heldT t) h - rd q h)) i + max 0 (rd (A.heldT t) i - rd q i) := rfl
    rw [hstep] at e
    clear hk0 ih ends g5 g6 h5 h6 next hstep hw
    generalize isum (fun h => max 0 (rd (A.heldT t) h - rd q h)) i = u at hsum e ⊢
    generalize rd (A.heldT t) i = y at b2 e ⊢
    generalize rd q i = z at b1 e ⊢
    rw [show mx 0 (wrap64 (y - z)) = max 0 (y - z) by rw [w64 (by omega)]; exact mx0 _, show mx 0 (wrap64 (z - y)) = max 0 (z - y) by rw [w64 (by omega)]; exact mx0 _, show wrap64 (u + max 0 (y - z)) = u + max 0 (y - z) from w64 (by omega)]
    exact e
  · exact ends i hlt hi g tk h3 h4 h5 h6
theorem settle_ref : ∃ k, kinkeepref35_Settle.f k t q = some ((A.settleOut t q).1.map c24, decide ((A.settleOut t q).2 = 0)) := by
 have hv := fit_valid hf
 have main : Ev (fun f => kinkeepref35_Settle.l0 f q t.length (A.heldT t) 0 0 (List.replicate t.length 0) t (List.replicate t.length 0)) ((A.settleOut t q).1.map c24, decide ((A.settleOut t q).2 = 0)) := by
  refine l0_run hf hn hsm (fun g tk hS => ?_) t.length 0 (by omega) (by omega) _ _ (by simp) (by simp) (fun j hj => by omega) (fun j hj => by omega)
  have z0 : isum (fun _ => (0 : Int)) t.length = 0 := isum_zero _
  have hz : tot t.length (fun _ _ _ => 0) = 0 := isum_nil (fun f _ => isum_nil (fun o _ => z0))
  have hN : Nn t q (fun _ _ _ => 0) := ⟨fun _ _ _ => Int.le_refl _, fun h hh => by
    unfold giveAt
    rw [isum_nil (fun o _ => z0)]; omega, fun h o hh ho => by
    unfold hsAt
    rw [z0]
    have := (A.valid_good hv).2 h o (by omega) (by omega) (by omega) (by omega)
    omega, fun k hk => by
    unfold takeAt
    rw [isum_nil (fun o _ => z0)]; omega⟩
  obtain ⟨F, hF, hFv⟩ := flow_st hf hn hsm hN hS
  refine Ev.bind hF ?_
  by_cases e : (A.settleOut t q).2 = 0
  · obtain ⟨B, b0, bz, b1, b2, b3, b4, b5, b6, b7, b8⟩ := fixed hf e
    have hB : Feas t.length (A.heldT t) q t B := ⟨b0, bz, b1, b2, b3⟩
    have hle : ¬ F < overAll t.length (A.heldT t) q := by
     have := (hFv (overAll t.length (A.heldT t) q)).2 (fun S => by
       have := rest_le hB (P := fun _ _ _ => 0) (fun f o k => b0 f o k) (fun _ _ _ => Int.le_refl _) S
       rw [hz] at this
       omega)
     omega
    simp only [if_neg hle]
    have hP0 : PP B 0 0 0 = fun _ _ _ => 0 := by
     funext f o k
     exact PP_no (by unfold lexlt; omega)
    have h1 := l1_run hf hn hsm hB b8 t.length 0 (by omega) (by omega) g t tk (by rw [hP0]; exact hS)
    have hneed : needAt t q B 0 0 0 = overAll t.length (A.heldT t) q := by
     unfold needAt
     rw [hP0, hz]; omega
    rw [hneed, moves_eq b0 b5 (fun m hm => by obtain ⟨f, o, k, x1, x2, x3, _, x5, x6⟩ := b4 m hm; exact ⟨f, o, k, x1, x2, x3, x5, x6⟩) b6] at h1
    rw [decide_eq_true e]
    exact h1
  · obtain ⟨S, hSv⟩ := full_val hf hsm e (fun _ _ _ => 0) (fun _ _ _ => rfl)
    have hlt : F < overAll t.length (A.heldT t) q := by
     have := (hFv F).1 (Int.le_refl _) S
     omega
    have e0 : (A.settleOut t q).1 = [] := by
     rcases settle_err t q with h | h
     · exact absurd h e
     · exact h.1
    rw [decide_eq_false e, e0]
    simp only [if_pos hlt]
    exact ⟨0, fun _ _ => rfl⟩
 obtain ⟨k0, hk⟩ := main
 obtain ⟨k1, h1⟩ := held_f t hv
 obtain ⟨k2, h2⟩ := clone_f t (by omega) (fun i hi => by rw [sq_of hv i hi]; omega)
 refine ⟨k0 + k1 + k2, ?_⟩
 unfold kinkeepref35_Settle.f
 rw [more (f := fun k => kinkeepref35_Held.f k t) (fun k => kinkeepref35_Held.mono t k) (show k1 ≤ k0 + k1 + k2 by omega) h1, Option.bind_some, more (f := fun k => kinkeepref35_Clone.f k t) (fun k => kinkeepref35_Clone.mono t k) (show k2 ≤ k0 + k1 + k2 by omega) h2, Option.bind_some, if_pos (by omega), if_pos (by rw [Int.toNat_natCast]; omega), Int.toNat_natCast]
 exact hk _ (by omega)
end
end Go.Proofs.Ytdljbmgknhbceaa.P
end
