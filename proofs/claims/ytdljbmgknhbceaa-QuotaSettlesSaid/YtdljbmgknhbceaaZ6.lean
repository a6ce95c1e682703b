-- Merged by wip/tools/shake.py out of: Qx63, X3, OO, PureQuotaSettles
import Derived.Test.YtdljbmgknhbceaaZ1
import Derived.Test.YtdljbmgknhbceaaZ2
import Derived.Test.YtdljbmgknhbceaaZ3
import Derived.Test.YtdljbmgknhbceaaZ4
import Derived.Test.YtdljbmgknhbceaaZ5
import Derived.IntWalk
import Derived.Deep.Matrix
import Derived.WalkKit
import Derived.ProofKit
import Derived.OpenShut
import Derived.Lib.SmallJoins
set_option linter.unusedVariables false
set_option linter.unusedSimpArgs false
set_option linter.unusedSectionVars false
section
namespace Go.Proofs.Ytdljbmgknhbceaa.Q
open Go.RowKit Go.Proofs.YtdljbmgknhbceaaW.PrintWords Go.Proofs.YtdljbmgknhbceaaW.PrintLast Go.Proofs.YtdljbmgknhbceaaW.PrintMore
attribute [local go_sem] max2_int min2_int max_two min_two max_three min_three max_four min_four
theorem upR {P Q : Prop} (q : Q) (f : Q → P := by (intro h; (with_reducible repeat (first | apply Kd.R_alloc | apply Kd.R_drewN | apply Kd.R_drew)); exact h)) : P := f q
theorem upS {P Q : Prop} (q : Q) (f : Q → P := by (intro h; (with_reducible repeat (first | apply Kd.S_alloc | apply Kd.S_drewN | apply Kd.S_drew)); exact h)) : P := f q
theorem upB {P Q : Prop} {m n : Nat} (q : Q) (g : m ≤ n) (f : Q → m ≤ n → P := by (intro h g; repeat (first | (with_reducible first | exact h | apply below_alloc | apply pw_below_drewN | apply below_drew1 | refine below_set ?_ g) | exact h))) : P := f q g
theorem upC {P Q : Prop} (q : Q) (f : Q → P := by (intro h; repeat (first | (with_reducible first | exact h | apply below_alloc | apply pw_below_drewN | apply below_drew1) | exact h))) : P := f q
set_option maxHeartbeats 8000000 in
set_option maxRecDepth 100000 in
theorem kinkeepref35_Settle.calls (k : Nat) (A0 : Option Addr) (c0 : Nat) (l0 : List (List Int)) (A1 : Option Addr) (c1 : Nat) (l1 : List Int) (r1 : List (S24)) (r2 : Bool) (w : World) (hr0 : Kd.C (Kd.slice 3 (Kd.int .i64)) w A0 l0.length l0) (hc0 : l0.length ≤ c0) (hr1 : Kd.C (Kd.int .i64) w A1 l1.length l1) (hc1 : l1.length ≤ c1) (h : kinkeepref35_Settle.f k l0 l1 = some (r1, r2)) :
 Calls Try.prog 31 #[.slice A0 l0.length c0, .slice A1 l1.length c1] w fun e w' => ∃ v0_ : Value, e = .returned (.tuple #[v0_, .bool r2]) ∧ Kd.R k24 24 w' w.heap.size (fun _ => True) v0_ r1 ∧ Below w.heap.size w w' := by
 have hu75 := Try.underlying75
 have hu24 := Try.underlying24
 have HR0 := sA hr0
 have HC0 := sA hc0
 clear hr0 hc0
 have HR1 := sA hr1
 have HC1 := sA hc1
 clear hr1 hc1
 have HB := sA (Below.refl w.heap.size w)
 have H : ((kinkeepref35_Held.f k l0).bind fun t156 => ((kinkeepref35_Clone.f k l0).bind fun t159 => (if 0 ≤ (l0.length : Int) then (if ((l0.length : Int) : Int).toNat ≤ 35184372088832 then (kinkeepref35_Settle.l0 k l1 (l0.length : Int) t156 0 0 (List.replicate ((l0.length : Int) : Int).toNat 0) t159 (List.replicate ((l0.length : Int) : Int).toNat 0)) else (none)) else (none)))) = some (r1, r2) := h
 clear h
 replace H := Option.bind_eq_some_iff.mp H
 obtain ⟨t156, A30, H⟩ := H
 replace H : ((kinkeepref35_Clone.f k l0).bind fun t159 => (if 0 ≤ (l0.length : Int) then (if ((l0.length : Int) : Int).toNat ≤ 35184372088832 then (kinkeepref35_Settle.l0 k l1 (l0.length : Int) t156 0 0 (List.replicate ((l0.length : Int) : Int).toNat 0) t159 (List.replicate ((l0.length : Int) : Int).toNat 0)) else (none)) else (none))) = some (r1, r2) := H
 have A3 := sA A30
 clear A30
 replace H := Option.bind_eq_some_iff.mp H
 obtain ⟨t159, A40, H⟩ := H
 replace H : (if 0 ≤ (l0.length : Int) then (if ((l0.length : Int) : Int).toNat ≤ 35184372088832 then (kinkeepref35_Settle.l0 k l1 (l0.length : Int) t156 0 0 (List.replicate ((l0.length : Int) : Int).toNat 0) t159 (List.replicate ((l0.length : Int) : Int).toNat 0)) else (none)) else (none)) = some (r1, r2) := H
 have A4 := sA A40
 clear A40
 by_cases c5 : 0 ≤ (l0.length : Int)
 ·
  rw [if_pos c5] at H
  have c5b0 := eq_true c5
  have c5b1 : decide (0 ≤ (l0.length : Int)) = true := decide_eq_true c5
  clear c5
  by_cases c6 : ((l0.length : Int) : Int).toNat ≤ 35184372088832
  ·
   rw [if_pos c6] at H
   have c6b0 := eq_true c6
   have c6b1 : decide (((l0.length : Int) : Int).toNat ≤ 35184372088832) = true := decide_eq_true c6
   clear c6
   obtain ⟨y162, hy162⟩ : ∃ y_ : List Int, y_ = (List.replicate ((l0.length : Int) : Int).toNat 0) := ⟨_, rfl⟩
   replace H : (kinkeepref35_Settle.l0 k l1 (l0.length : Int) t156 0 0 y162 t159 (List.replicate ((l0.length : Int) : Int).toNat 0)) = some (r1, r2) := by first | (rw [hy162]; with_reducible exact H) | (have H2_ := (Option.bind_some _ _).symm.trans H; rw [hy162]; with_reducible exact H2_) | (have H2_ := (Option.bind_some _ _).symm.trans H; with_reducible exact H2_) | with_reducible exact H | (rw [hy162]; exact H) | exact H
   have Ny162 := sA hy162
   clear hy162
   obtain ⟨y165, hy165⟩ : ∃ y_ : List Int, y_ = (List.replicate ((l0.length : Int) : Int).toNat 0) := ⟨_, rfl⟩
   replace H : (kinkeepref35_Settle.l0 k l1 (l0.length : Int) t156 0 0 y162 t159 y165) = some (r1, r2) := by first | (rw [hy165]; with_reducible exact H) | (have H2_ := (Option.bind_some _ _).symm.trans H; rw [hy165]; with_reducible exact H2_) | (have H2_ := (Option.bind_some _ _).symm.trans H; with_reducible exact H2_) | with_reducible exact H | (rw [hy165]; exact H) | exact H
   have Ny165 := sA hy165
   clear hy165
   have H' := sA H
   clear H
   go_enter Try.func31, Try.ntmps31
   try go_wp2_with (first | ((with_reducible refine gate_callee (f := 25) rfl ?_); refine goesL_ (some 19) rfl rfl Try.func25 (by kernel_rfl) rfl #[.slice A0 l0.length c0] rfl upM ?_; (with_reducible refine (kinkeepref35_Held.calls k _ _ l0 t156 _ ?side1 ?side2 A3.out).mono ?_); (case side1 => exact upX HR0.out); (case side2 => exact HC0.out); rintro e w7 ⟨v157, rfl, ho0, hb⟩; refine ⟨_, rfl, ?_⟩; have n0_ := sA (Kd.R_lower ho0 (below_size (upC HB.out))); have n1_ := sA (below_step (upC HB.out) hb); clear HB; have HO158 := n0_; have HB := n1_; clear n0_ n1_; (try clear hb); (try clear hb2); (try clear hk); (try clear hi); (try clear ho0)))
   have n0_ := sA (Kd.R_drew HO158.out)
   have n1_ := sA (below_drew1 HB.out)
   clear HO158
   clear HB
   have HO158 := n0_
   have HB := n1_
   clear n0_ n1_
   refine start_ (n := 9) (S := fun w' => True) (ds := []) #[false, false, false, false, false, false, false, false, false] (by kernel_rfl) rfl rfl trivial (fun hHeld => ?_); refine with_tabW kinkeepref35_Settle.tab3 kinkeepref35_Settle.bits3 (fun HT_ HW_ => ?_)
   generalize w7.drew = w8 at HO158 HB hHeld ⊢
   refine pure_ (i := 0) (N := some 20) (v := ?_) (a' := ?_) #[true, false, false, false, false, false, false, false, false] rfl rfl (any_of HT_.out (by kernel_rfl)) (fun _ _ _ h => h) (Or.inl ⟨by rfl, ?_⟩) ?_ ?_
   rotate_left
   ·
    intro w'
    go_simp
    with_reducible rfl
   rotate_left
   ·
    simp only [Act.put, upL, i64_w, i32_w]
    rfl
   refine pure_ (i := 2) (N := some 22) (v := ?_) (a' := ?_) #[true, false, true, false, false, false, false, false, false] rfl rfl (any_of HT_.out (by kernel_rfl)) (fun _ _ _ h => h) (Or.inl ⟨by rfl, ?_⟩) ?_ ?_
   rotate_left
   ·
    intro w'
    go_simp
    with_reducible rfl
   rotate_left
   ·
    simp only [Act.put, upL, i64_w, i32_w]
    rfl
   refine pure_ (i := 4) (N := some 24) (v := ?_) (a' := ?_) #[true, false, true, false, true, false, false, false, false] rfl rfl (any_of HT_.out (by kernel_rfl)) (fun _ _ _ h => h) (Or.inl ⟨by rfl, ?_⟩) ?_ ?_
   rotate_left
   ·
    intro w'
    go_simp
    with_reducible rfl
   rotate_left
   ·
    simp only [Act.put, upL, i64_w, i32_w]
    rfl
   refine join_ (σ := Value × Value × Value × Nat) 1 #[true, true, true, true, true, true, true, true, false] (fun s_ => [(21, s_.1), (23, s_.2.1), (25, s_.2.2.1), (8, .pointer (some ⟨s_.2.2.2, 0, none⟩)), (26, .agg #[s_.2.1, s_.1, s_.2.2.1])]) (fun s_ w' => (Kd.R (Kd.int .i64) 3 w' w.heap.size (fun k_ => some k_ ≠ (s_.2.1 : Value).ownBlock ∧ some k_ ≠ (s_.2.2.1 : Value).ownBlock) v157 t156) ∧ (Kd.S (Kd.slice 3 (Kd.int .i64)) 31 w' w.heap.size (fun k_ => some k_ ≠ (v157 : Value).ownBlock ∧ some k_ ≠ (s_.2.1 : Value).ownBlock ∧ some k_ ≠ (s_.2.2.1 : Value).ownBlock) s_.1 t159) ∧ (Kd.R (Kd.int .i64) 3 w' w.heap.size (fun k_ => some k_ ≠ (v157 : Value).ownBlock ∧ some k_ ≠ (s_.2.2.1 : Value).ownBlock) s_.2.1 y162) ∧ (Kd.R (Kd.int .i64) 3 w' w.heap.size (fun k_ => some k_ ≠ (v157 : Value).ownBlock ∧ some k_ ≠ (s_.2.1 : Value).ownBlock) s_.2.2.1 y165) ∧ (w'.heap[s_.2.2.2]? = some (.cells #[.slice none 0 0, .slice none 0 0, .slice none 0 0] 75 (0, 0))) ∧ (w.heap.size ≤ s_.2.2.2) ∧ (w.heap.size ≤ s_.2.2.2) ∧ (Below w.heap.size w w')) ?_ ?_
   rotate_left
   ·
    intro hJ1_3_5_7
    refine join_ (σ := Value × Value × Value) 2 #[true, true, true, true, true, true, true, false, false] (fun s_ => [(21, s_.1), (23, s_.2.1), (25, s_.2.2), (26, .agg #[s_.2.1, s_.1, s_.2.2])]) (fun s_ w' => (Kd.R (Kd.int .i64) 3 w' w.heap.size (fun k_ => some k_ ≠ (s_.2.1 : Value).ownBlock ∧ some k_ ≠ (s_.2.2 : Value).ownBlock) v157 t156) ∧ (Kd.S (Kd.slice 3 (Kd.int .i64)) 31 w' w.heap.size (fun k_ => some k_ ≠ (v157 : Value).ownBlock ∧ some k_ ≠ (s_.2.1 : Value).ownBlock ∧ some k_ ≠ (s_.2.2 : Value).ownBlock) s_.1 t159) ∧ (Kd.R (Kd.int .i64) 3 w' w.heap.size (fun k_ => some k_ ≠ (v157 : Value).ownBlock ∧ some k_ ≠ (s_.2.2 : Value).ownBlock) s_.2.1 y162) ∧ (Kd.R (Kd.int .i64) 3 w' w.heap.size (fun k_ => some k_ ≠ (v157 : Value).ownBlock ∧ some k_ ≠ (s_.2.1 : Value).ownBlock) s_.2.2 y165) ∧ (Below w.heap.size w w')) ?_ ?_
    rotate_left
    ·
     intro hJ1_3_5
     refine join_ (σ := Value × Value × Nat) 3 #[true, true, true, true, true, false, false, true, false] (fun s_ => [(21, s_.1), (23, s_.2.1), (8, .pointer (some ⟨s_.2.2, 0, none⟩))]) (fun s_ w' => (Kd.R (Kd.int .i64) 3 w' w.heap.size (fun k_ => some k_ ≠ (s_.2.1 : Value).ownBlock) v157 t156) ∧ (Kd.S (Kd.slice 3 (Kd.int .i64)) 31 w' w.heap.size (fun k_ => some k_ ≠ (v157 : Value).ownBlock ∧ some k_ ≠ (s_.2.1 : Value).ownBlock) s_.1 t159) ∧ (Kd.R (Kd.int .i64) 3 w' w.heap.size (fun k_ => some k_ ≠ (v157 : Value).ownBlock) s_.2.1 y162) ∧ (w'.heap[s_.2.2]? = some (.cells #[.slice none 0 0, .slice none 0 0, .slice none 0 0] 75 (0, 0))) ∧ (w.heap.size ≤ s_.2.2) ∧ (w.heap.size ≤ s_.2.2) ∧ (Below w.heap.size w w')) ?_ ?_
     rotate_left
     ·
      intro hJ1_3_7
      refine join_ (σ := Value × Value × Nat) 3 #[true, true, true, false, true, true, false, true, false] (fun s_ => [(21, s_.1), (25, s_.2.1), (8, .pointer (some ⟨s_.2.2, 0, none⟩))]) (fun s_ w' => (Kd.R (Kd.int .i64) 3 w' w.heap.size (fun k_ => some k_ ≠ (s_.2.1 : Value).ownBlock) v157 t156) ∧ (Kd.S (Kd.slice 3 (Kd.int .i64)) 31 w' w.heap.size (fun k_ => some k_ ≠ (v157 : Value).ownBlock ∧ some k_ ≠ (s_.2.1 : Value).ownBlock) s_.1 t159) ∧ (Kd.R (Kd.int .i64) 3 w' w.heap.size (fun k_ => some k_ ≠ (v157 : Value).ownBlock) s_.2.1 y165) ∧ (w'.heap[s_.2.2]? = some (.cells #[.slice none 0 0, .slice none 0 0, .slice none 0 0] 75 (0, 0))) ∧ (w.heap.size ≤ s_.2.2) ∧ (w.heap.size ≤ s_.2.2) ∧ (Below w.heap.size w w')) ?_ ?_
      rotate_left
      ·
       intro hJ1_5_7
       refine join_ (σ := Value × Value × Nat) 3 #[true, false, true, true, true, true, false, true, false] (fun s_ => [(23, s_.1), (25, s_.2.1), (8, .pointer (some ⟨s_.2.2, 0, none⟩))]) (fun s_ w' => (Kd.R (Kd.int .i64) 3 w' w.heap.size (fun k_ => some k_ ≠ (s_.1 : Value).ownBlock ∧ some k_ ≠ (s_.2.1 : Value).ownBlock) v157 t156) ∧ (Kd.R (Kd.int .i64) 3 w' w.heap.size (fun k_ => some k_ ≠ (v157 : Value).ownBlock ∧ some k_ ≠ (s_.2.1 : Value).ownBlock) s_.1 y162) ∧ (Kd.R (Kd.int .i64) 3 w' w.heap.size (fun k_ => some k_ ≠ (v157 : Value).ownBlock ∧ some k_ ≠ (s_.1 : Value).ownBlock) s_.2.1 y165) ∧ (w'.heap[s_.2.2]? = some (.cells #[.slice none 0 0, .slice none 0 0, .slice none 0 0] 75 (0, 0))) ∧ (w.heap.size ≤ s_.2.2) ∧ (w.heap.size ≤ s_.2.2) ∧ (Below w.heap.size w w')) ?_ ?_
       rotate_left
       ·
        intro hJ3_5_7
        refine join_ (σ := Value × Value) 4 #[true, true, true, true, true, false, false, false, false] (fun s_ => [(21, s_.1), (23, s_.2)]) (fun s_ w' => (Kd.R (Kd.int .i64) 3 w' w.heap.size (fun k_ => some k_ ≠ (s_.2 : Value).ownBlock) v157 t156) ∧ (Kd.S (Kd.slice 3 (Kd.int .i64)) 31 w' w.heap.size (fun k_ => some k_ ≠ (v157 : Value).ownBlock ∧ some k_ ≠ (s_.2 : Value).ownBlock) s_.1 t159) ∧ (Kd.R (Kd.int .i64) 3 w' w.heap.size (fun k_ => some k_ ≠ (v157 : Value).ownBlock) s_.2 y162) ∧ (Below w.heap.size w w')) ?_ ?_
        rotate_left
        ·
         intro hJ1_3
         refine join_ (σ := Value × Value) 4 #[true, true, true, false, true, true, false, false, false] (fun s_ => [(21, s_.1), (25, s_.2)]) (fun s_ w' => (Kd.R (Kd.int .i64) 3 w' w.heap.size (fun k_ => some k_ ≠ (s_.2 : Value).ownBlock) v157 t156) ∧ (Kd.S (Kd.slice 3 (Kd.int .i64)) 31 w' w.heap.size (fun k_ => some k_ ≠ (v157 : Value).ownBlock ∧ some k_ ≠ (s_.2 : Value).ownBlock) s_.1 t159) ∧ (Kd.R (Kd.int .i64) 3 w' w.heap.size (fun k_ => some k_ ≠ (v157 : Value).ownBlock) s_.2 y165) ∧ (Below w.heap.size w w')) ?_ ?_
         rotate_left
         ·
          intro hJ1_5
          refine join_ (σ := Value × Nat) 4 #[true, true, true, false, true, false, false, true, false] (fun s_ => [(21, s_.1), (8, .pointer (some ⟨s_.2, 0, none⟩))]) (fun s_ w' => (Kd.R (Kd.int .i64) 3 w' w.heap.size (fun _ => True) v157 t156) ∧ (Kd.S (Kd.slice 3 (Kd.int .i64)) 31 w' w.heap.size (fun k_ => some k_ ≠ (v157 : Value).ownBlock) s_.1 t159) ∧ (w'.heap[s_.2]? = some (.cells #[.slice none 0 0, .slice none 0 0, .slice none 0 0] 75 (0, 0))) ∧ (w.heap.size ≤ s_.2) ∧ (w.heap.size ≤ s_.2) ∧ (Below w.heap.size w w')) ?_ ?_
          rotate_left
          ·
           intro hJ1_7
           refine join_ (σ := Value × Value) 4 #[true, false, true, true, true, true, false, false, false] (fun s_ => [(23, s_.1), (25, s_.2)]) (fun s_ w' => (Kd.R (Kd.int .i64) 3 w' w.heap.size (fun k_ => some k_ ≠ (s_.1 : Value).ownBlock ∧ some k_ ≠ (s_.2 : Value).ownBlock) v157 t156) ∧ (Kd.R (Kd.int .i64) 3 w' w.heap.size (fun k_ => some k_ ≠ (v157 : Value).ownBlock ∧ some k_ ≠ (s_.2 : Value).ownBlock) s_.1 y162) ∧ (Kd.R (Kd.int .i64) 3 w' w.heap.size (fun k_ => some k_ ≠ (v157 : Value).ownBlock ∧ some k_ ≠ (s_.1 : Value).ownBlock) s_.2 y165) ∧ (Below w.heap.size w w')) ?_ ?_
           rotate_left
           ·
            intro hJ3_5
            refine join_ (σ := Value × Nat) 4 #[true, false, true, true, true, false, false, true, false] (fun s_ => [(23, s_.1), (8, .pointer (some ⟨s_.2, 0, none⟩))]) (fun s_ w' => (Kd.R (Kd.int .i64) 3 w' w.heap.size (fun k_ => some k_ ≠ (s_.1 : Value).ownBlock) v157 t156) ∧ (Kd.R (Kd.int .i64) 3 w' w.heap.size (fun k_ => some k_ ≠ (v157 : Value).ownBlock) s_.1 y162) ∧ (w'.heap[s_.2]? = some (.cells #[.slice none 0 0, .slice none 0 0, .slice none 0 0] 75 (0, 0))) ∧ (w.heap.size ≤ s_.2) ∧ (w.heap.size ≤ s_.2) ∧ (Below w.heap.size w w')) ?_ ?_
            rotate_left
            ·
             intro hJ3_7
             refine join_ (σ := Value × Nat) 4 #[true, false, true, false, true, true, false, true, false] (fun s_ => [(25, s_.1), (8, .pointer (some ⟨s_.2, 0, none⟩))]) (fun s_ w' => (Kd.R (Kd.int .i64) 3 w' w.heap.size (fun k_ => some k_ ≠ (s_.1 : Value).ownBlock) v157 t156) ∧ (Kd.R (Kd.int .i64) 3 w' w.heap.size (fun k_ => some k_ ≠ (v157 : Value).ownBlock) s_.1 y165) ∧ (w'.heap[s_.2]? = some (.cells #[.slice none 0 0, .slice none 0 0, .slice none 0 0] 75 (0, 0))) ∧ (w.heap.size ≤ s_.2) ∧ (w.heap.size ≤ s_.2) ∧ (Below w.heap.size w w')) ?_ ?_
             rotate_left
             ·
              intro hJ5_7
              refine join_ (σ := Value) 5 #[true, true, true, false, true, false, false, false, false] (fun s_ => [(21, s_)]) (fun s_ w' => (Kd.R (Kd.int .i64) 3 w' w.heap.size (fun _ => True) v157 t156) ∧ (Kd.S (Kd.slice 3 (Kd.int .i64)) 31 w' w.heap.size (fun k_ => some k_ ≠ (v157 : Value).ownBlock) s_ t159) ∧ (Below w.heap.size w w')) ?_ ?_
              rotate_left
              ·
               intro hJ1
               refine join_ (σ := Value) 5 #[true, false, true, true, true, false, false, false, false] (fun s_ => [(23, s_)]) (fun s_ w' => (Kd.R (Kd.int .i64) 3 w' w.heap.size (fun k_ => some k_ ≠ (s_ : Value).ownBlock) v157 t156) ∧ (Kd.R (Kd.int .i64) 3 w' w.heap.size (fun k_ => some k_ ≠ (v157 : Value).ownBlock) s_ y162) ∧ (Below w.heap.size w w')) ?_ ?_
               rotate_left
               ·
                intro hJ3
                refine join_ (σ := Value) 5 #[true, false, true, false, true, true, false, false, false] (fun s_ => [(25, s_)]) (fun s_ w' => (Kd.R (Kd.int .i64) 3 w' w.heap.size (fun k_ => some k_ ≠ (s_ : Value).ownBlock) v157 t156) ∧ (Kd.R (Kd.int .i64) 3 w' w.heap.size (fun k_ => some k_ ≠ (v157 : Value).ownBlock) s_ y165) ∧ (Below w.heap.size w w')) ?_ ?_
                rotate_left
                ·
                 intro hJ5
                 refine join_ (σ := Nat) 5 #[true, false, true, false, true, false, false, true, false] (fun s_ => [(8, .pointer (some ⟨s_, 0, none⟩))]) (fun s_ w' => (Kd.R (Kd.int .i64) 3 w' w.heap.size (fun _ => True) v157 t156) ∧ (w'.heap[s_]? = some (.cells #[.slice none 0 0, .slice none 0 0, .slice none 0 0] 75 (0, 0))) ∧ (w.heap.size ≤ s_) ∧ (w.heap.size ≤ s_) ∧ (Below w.heap.size w w')) ?_ ?_
                 rotate_left
                 ·
                  intro hJ7
                  refine four_ (i := 1) (j := 3) (k := 5) (m := 7) (Ni := some 21) (Nj := some 23) (Nk := some 25) (Nm := some 8) #[true, true, true, false, true, false, false, false, false] #[true, false, true, true, true, false, false, false, false] #[true, false, true, false, true, true, false, false, false] #[true, false, true, false, true, false, false, true, false] rfl rfl rfl rfl rfl rfl rfl rfl (four_of HT_.out (by kernel_rfl)) (by decide) (by decide) (by decide) (by decide) (fun K hK => ?_) (fun K hK => ?_) (fun K hK => ?_) (fun K hK => ?_)
                  ·
                   skip
                   refine goes_ Try.func32 (by kernel_rfl) rfl #[.slice A0 l0.length c0] (by rfl) rfl rfl upM ?_
                   with_reducible refine (kinkeepref35_Clone.calls k _ _ l0 t159 _ ?side1 ?side2 A4.out).mono ?_
                   (case side1 => exact upX (Kd.C_below HR0.out HB.out))
                   (case side2 => exact HC0.out)
                   rintro e w9 ⟨v160, rfl, ho0, hb⟩
                   refine ⟨_, rfl, ?_⟩
                   have n0_ := sA (Kd.R_below (upR HO158.out) hb)
                   have n1_ := sA (Kd.S_lower (Kd.S_new' ho0 (Kd.R_lt (upR HO158.out))) (below_size (upC HB.out)))
                   have n2_ := sA (below_step (upC HB.out) hb)
                   clear HO158
                   clear HB
                   have HO158 := n0_
                   have HO161 := n1_
                   have HB := n2_
                   clear n0_ n1_ n2_
                   (try clear hb)
                   (try clear hb2)
                   (try clear hk)
                   (try clear hi)
                   (try clear ho0)
                   refine hK.out _ _ trivial (fun hHeld => ?_)
                   clear hK K
                   refine norm_ (a' := ?_) ?_ ?_
                   rotate_left
                   ·
                    show Act.put _ (some 21) _ = _
                    simp only [Act.put, upL, i64_w, i32_w]
                    rfl
                   exact norm_ upZ (hJ1 (v160) _ ⟨(upR HO158.out), (by (with_reducible repeat (first | apply Kd.S_alloc | apply Kd.S_drewN | apply Kd.S_drew)); exact Kd.S_mono HO161.out (fun _ hk => hk.2)), (upC HB.out)⟩)
                  ·
                   skip
                   refine Kd.R_make_step (Kd.int .i64) _ 3 (by rfl) (N := 23) rfl 31 _ _ rfl (l0.length : Int) rfl rfl Try.underlying31 (.int .i64 0) 8 info3 rfl (by decide) (by omega) 0 (ok := fun _ => True) (okp := fun _ => True) rfl (fun _ hk => hk) trivial (upA) (Nat.le_trans (Nat.mul_le_mul_right _ (upA : (l0.length : Int).toNat ≤ 35184372088832)) (by omega)) (Below.refl _ _) (Nat.le_refl _) ?_
                   intro v163 w9 ho10 hb hg_ hnew_
                   clear hg_ hnew_
                   (first | rw [← Ny162.out] at ho10 | (simp only [Int.reduceToNat] at ho10; rw [← Ny162.out] at ho10))
                   have n0_ := sA (Kd.R_elder' (upR HO158.out) (Kd.R_base ho10) hb)
                   have n1_ := sA (Kd.R_lower (Kd.R_new' ho10 (Kd.R_lt (upR HO158.out))) (below_size (upC HB.out)))
                   have n2_ := sA (below_step (upC HB.out) hb)
                   clear HO158
                   clear HB
                   have HO158 := n0_
                   have HO164 := n1_
                   have HB := n2_
                   clear n0_ n1_ n2_
                   clear hb ho10
                   refine hK.out _ _ trivial (fun hHeld => ?_)
                   clear hK K
                   refine norm_ (a' := ?_) ?_ ?_
                   rotate_left
                   ·
                    show Act.put _ (some 23) _ = _
                    simp only [Act.put, upL, i64_w, i32_w]
                    rfl
                   exact norm_ upZ (hJ3 (v163) _ ⟨(by (with_reducible repeat (first | apply Kd.R_alloc | apply Kd.R_drewN | apply Kd.R_drew)); exact Kd.R_mono HO158.out (fun _ hk => hk.2)), (by (with_reducible repeat (first | apply Kd.R_alloc | apply Kd.R_drewN | apply Kd.R_drew)); exact Kd.R_mono HO164.out (fun _ hk => hk.2)), (upC HB.out)⟩)
                  ·
                   skip
                   refine Kd.R_make_step (Kd.int .i64) _ 3 (by rfl) (N := 25) rfl 31 _ _ rfl (l0.length : Int) rfl rfl Try.underlying31 (.int .i64 0) 8 info3 rfl (by decide) (by omega) 0 (ok := fun _ => True) (okp := fun _ => True) rfl (fun _ hk => hk) trivial (upA) (Nat.le_trans (Nat.mul_le_mul_right _ (upA : (l0.length : Int).toNat ≤ 35184372088832)) (by omega)) (Below.refl _ _) (Nat.le_refl _) ?_
                   intro v166 w9 ho10 hb hg_ hnew_
                   clear hg_ hnew_
                   (first | rw [← Ny165.out] at ho10 | (simp only [Int.reduceToNat] at ho10; rw [← Ny165.out] at ho10))
                   have n0_ := sA (Kd.R_elder' (upR HO158.out) (Kd.R_base ho10) hb)
                   have n1_ := sA (Kd.R_lower (Kd.R_new' ho10 (Kd.R_lt (upR HO158.out))) (below_size (upC HB.out)))
                   have n2_ := sA (below_step (upC HB.out) hb)
                   clear HO158
                   clear HB
                   have HO158 := n0_
                   have HO167 := n1_
                   have HB := n2_
                   clear n0_ n1_ n2_
                   clear hb ho10
                   refine hK.out _ _ trivial (fun hHeld => ?_)
                   clear hK K
                   refine norm_ (a' := ?_) ?_ ?_
                   rotate_left
                   ·
                    show Act.put _ (some 25) _ = _
                    simp only [Act.put, upL, i64_w, i32_w]
                    rfl
                   exact norm_ upZ (hJ5 (v166) _ ⟨(by (with_reducible repeat (first | apply Kd.R_alloc | apply Kd.R_drewN | apply Kd.R_drew)); exact Kd.R_mono HO158.out (fun _ hk => hk.2)), (by (with_reducible repeat (first | apply Kd.R_alloc | apply Kd.R_drewN | apply Kd.R_drew)); exact Kd.R_mono HO167.out (fun _ hk => hk.2)), (upC HB.out)⟩)
                  ·
                   skip
                   refine box_step ?hg (N := 8) ?hd (cs := #[.slice none 0 0, .slice none 0 0, .slice none 0 0]) (t := 75) ?hr ?_; (case hd => rfl); (case hg => rfl); (case hr => first | (go_simp; done) | (go_simp; rfl))
                   intro gb168 hg w9 hbox hb
                   have n0_ := sA (Kd.R_below (upR HO158.out) hb)
                   have n1_ := sA (below_step (upC HB.out) hb)
                   have n2_ := sA (hbox)
                   have n3_ := sA ((by rw [hg]; exact (below_size (upC HB.out)) : w.heap.size ≤ gb168))
                   have n4_ := sA ((by rw [hg]; exact (below_size (upC HB.out)) : w.heap.size ≤ gb168))
                   clear HO158
                   clear HB
                   have HO158 := n0_
                   have HB := n1_
                   have BK168 := n2_
                   have GW168 := n3_
                   have GE168 := n4_
                   clear n0_ n1_ n2_ n3_ n4_
                   clear hb hbox hg
                   refine hK.out _ _ trivial (fun hHeld => ?_)
                   clear hK K
                   refine norm_ (a' := ?_) ?_ ?_
                   rotate_left
                   ·
                    show Act.put _ (some 8) _ = _
                    simp only [Act.put, upL, i64_w, i32_w]
                    rfl
                   exact norm_ upZ (hJ7 (gb168) _ ⟨(upR HO158.out), (upK BK168.out), GW168.out, GE168.out, (upB HB.out GE168.out)⟩)
                 ·
                  skip
                  rintro gb168 w10 ⟨h0_, h1_, h2_, h3_, h4_⟩
                  have n0_ := sA h0_
                  have n1_ := sA h1_
                  have n2_ := sA h2_
                  have n3_ := sA h3_
                  have n4_ := sA h4_
                  clear HO158
                  clear HB
                  clear h0_ h1_ h2_ h3_ h4_
                  have HO158 := n0_
                  have BK168 := n1_
                  have GW168 := n2_
                  have GE168 := n3_
                  have HB := n4_
                  clear n0_ n1_ n2_ n3_ n4_
                  have hHeld := trivial
                  refine norm_ (a' := ?_) ?_ ?_
                  rotate_left
                  ·
                   simp only [putAll, Act.put, upL]
                   rfl
                  refine three_ (i := 1) (j := 3) (k := 5) (Ni := some 21) (Nj := some 23) (Nk := some 25) #[true, true, true, false, true, false, false, true, false] #[true, false, true, true, true, false, false, true, false] #[true, false, true, false, true, true, false, true, false] rfl rfl rfl rfl rfl rfl (three_of HT_.out (by kernel_rfl)) (by decide) (by decide) (by decide) (fun K hK => ?_) (fun K hK => ?_) (fun K hK => ?_)
                  ·
                   skip
                   refine goes_ Try.func32 (by kernel_rfl) rfl #[.slice A0 l0.length c0] (by rfl) rfl rfl upM ?_
                   with_reducible refine (kinkeepref35_Clone.calls k _ _ l0 t159 _ ?side1 ?side2 A4.out).mono ?_
                   (case side1 => exact upX (Kd.C_below HR0.out HB.out))
                   (case side2 => exact HC0.out)
                   rintro e w11 ⟨v160, rfl, ho0, hb⟩
                   refine ⟨_, rfl, ?_⟩
                   have n0_ := sA (Kd.R_below (upR HO158.out) hb)
                   have n1_ := sA (Kd.S_lower (Kd.S_new' ho0 (Kd.R_lt (upR HO158.out))) (below_size (upB HB.out GE168.out)))
                   have n2_ := sA (blk_below (g := gb168) (upK BK168.out) hb)
                   have n3_ := sA (below_step (upB HB.out GE168.out) hb)
                   clear HO158
                   clear BK168
                   clear HB
                   have HO158 := n0_
                   have HO161 := n1_
                   have BK168 := n2_
                   have HB := n3_
                   clear n0_ n1_ n2_ n3_
                   (try clear hb)
                   (try clear hb2)
                   (try clear hk)
                   (try clear hi)
                   (try clear ho0)
                   refine hK.out _ _ trivial (fun hHeld => ?_)
                   clear hK K
                   refine norm_ (a' := ?_) ?_ ?_
                   rotate_left
                   ·
                    show Act.put _ (some 21) _ = _
                    simp only [Act.put, upL, i64_w, i32_w]
                    rfl
                   exact norm_ upZ (hJ1_7 (v160, gb168) _ ⟨(upR HO158.out), (by (with_reducible repeat (first | apply Kd.S_alloc | apply Kd.S_drewN | apply Kd.S_drew)); exact Kd.S_mono HO161.out (fun _ hk => hk.2)), (upK BK168.out), GW168.out, GE168.out, (upB HB.out GE168.out)⟩)
                  ·
                   skip
                   refine Kd.R_make_step (Kd.int .i64) _ 3 (by rfl) (N := 23) rfl 31 _ _ rfl (l0.length : Int) rfl rfl Try.underlying31 (.int .i64 0) 8 info3 rfl (by decide) (by omega) 0 (ok := fun _ => True) (okp := fun _ => True) rfl (fun _ hk => hk) trivial (upA) (Nat.le_trans (Nat.mul_le_mul_right _ (upA : (l0.length : Int).toNat ≤ 35184372088832)) (by omega)) (Below.refl _ _) (Nat.le_refl _) ?_
                   intro v163 w11 ho12 hb hg_ hnew_
                   clear hg_ hnew_
                   (first | rw [← Ny162.out] at ho12 | (simp only [Int.reduceToNat] at ho12; rw [← Ny162.out] at ho12))
                   have n0_ := sA (Kd.R_elder' (upR HO158.out) (Kd.R_base ho12) hb)
                   have n1_ := sA (Kd.R_lower (Kd.R_new' ho12 (Kd.R_lt (upR HO158.out))) (below_size (upB HB.out GE168.out)))
                   have n2_ := sA (blk_below (g := gb168) (upK BK168.out) hb)
                   have n3_ := sA (below_step (upB HB.out GE168.out) hb)
                   clear HO158
                   clear BK168
                   clear HB
                   have HO158 := n0_
                   have HO164 := n1_
                   have BK168 := n2_
                   have HB := n3_
                   clear n0_ n1_ n2_ n3_
                   clear hb ho12
                   refine hK.out _ _ trivial (fun hHeld => ?_)
                   clear hK K
                   refine norm_ (a' := ?_) ?_ ?_
                   rotate_left
                   ·
                    show Act.put _ (some 23) _ = _
                    simp only [Act.put, upL, i64_w, i32_w]
                    rfl
                   exact norm_ upZ (hJ3_7 (v163, gb168) _ ⟨(by (with_reducible repeat (first | apply Kd.R_alloc | apply Kd.R_drewN | apply Kd.R_drew)); exact Kd.R_mono HO158.out (fun _ hk => hk.2)), (by (with_reducible repeat (first | apply Kd.R_alloc | apply Kd.R_drewN | apply Kd.R_drew)); exact Kd.R_mono HO164.out (fun _ hk => hk.2)), (upK BK168.out), GW168.out, GE168.out, (upB HB.out GE168.out)⟩)
                  ·
                   skip
                   refine Kd.R_make_step (Kd.int .i64) _ 3 (by rfl) (N := 25) rfl 31 _ _ rfl (l0.length : Int) rfl rfl Try.underlying31 (.int .i64 0) 8 info3 rfl (by decide) (by omega) 0 (ok := fun _ => True) (okp := fun _ => True) rfl (fun _ hk => hk) trivial (upA) (Nat.le_trans (Nat.mul_le_mul_right _ (upA : (l0.length : Int).toNat ≤ 35184372088832)) (by omega)) (Below.refl _ _) (Nat.le_refl _) ?_
                   intro v166 w11 ho12 hb hg_ hnew_
                   clear hg_ hnew_
                   (first | rw [← Ny165.out] at ho12 | (simp only [Int.reduceToNat] at ho12; rw [← Ny165.out] at ho12))
                   have n0_ := sA (Kd.R_elder' (upR HO158.out) (Kd.R_base ho12) hb)
                   have n1_ := sA (Kd.R_lower (Kd.R_new' ho12 (Kd.R_lt (upR HO158.out))) (below_size (upB HB.out GE168.out)))
                   have n2_ := sA (blk_below (g := gb168) (upK BK168.out) hb)
                   have n3_ := sA (below_step (upB HB.out GE168.out) hb)
                   clear HO158
                   clear BK168
                   clear HB
                   have HO158 := n0_
                   have HO167 := n1_
                   have BK168 := n2_
                   have HB := n3_
                   clear n0_ n1_ n2_ n3_
                   clear hb ho12
                   refine hK.out _ _ trivial (fun hHeld => ?_)
                   clear hK K
                   refine norm_ (a' := ?_) ?_ ?_
                   rotate_left
                   ·
                    show Act.put _ (some 25) _ = _
                    simp only [Act.put, upL, i64_w, i32_w]
                    rfl
                   exact norm_ upZ (hJ5_7 (v166, gb168) _ ⟨(by (with_reducible repeat (first | apply Kd.R_alloc | apply Kd.R_drewN | apply Kd.R_drew)); exact Kd.R_mono HO158.out (fun _ hk => hk.2)), (by (with_reducible repeat (first | apply Kd.R_alloc | apply Kd.R_drewN | apply Kd.R_drew)); exact Kd.R_mono HO167.out (fun _ hk => hk.2)), (upK BK168.out), GW168.out, GE168.out, (upB HB.out GE168.out)⟩)
                ·
                 skip
                 rintro v166 w11 ⟨h0_, h1_, h2_⟩
                 have n0_ := sA h0_
                 have n1_ := sA h1_
                 have n2_ := sA h2_
                 clear HO158
                 clear HB
                 clear h0_ h1_ h2_
                 have HO158 := n0_
                 have HO167 := n1_
                 have HB := n2_
                 clear n0_ n1_ n2_
                 have hHeld := trivial
                 refine norm_ (a' := ?_) ?_ ?_
                 rotate_left
                 ·
                  simp only [putAll, Act.put, upL]
                  rfl
                 refine three_ (i := 1) (j := 3) (k := 7) (Ni := some 21) (Nj := some 23) (Nk := some 8) #[true, true, true, false, true, true, false, false, false] #[true, false, true, true, true, true, false, false, false] #[true, false, true, false, true, true, false, true, false] rfl rfl rfl rfl rfl rfl (three_of HT_.out (by kernel_rfl)) (by decide) (by decide) (by decide) (fun K hK => ?_) (fun K hK => ?_) (fun K hK => ?_)
                 ·
                  skip
                  refine goes_ Try.func32 (by kernel_rfl) rfl #[.slice A0 l0.length c0] (by rfl) rfl rfl upM ?_
                  with_reducible refine (kinkeepref35_Clone.calls k _ _ l0 t159 _ ?side1 ?side2 A4.out).mono ?_
                  (case side1 => exact upX (Kd.C_below HR0.out HB.out))
                  (case side2 => exact HC0.out)
                  rintro e w12 ⟨v160, rfl, ho0, hb⟩
                  refine ⟨_, rfl, ?_⟩
                  have n0_ := sA (Kd.R_below (upR HO158.out) hb)
                  have n1_ := sA (Kd.R_below (upR HO167.out) hb)
                  have n2_ := sA (Kd.S_lower (Kd.S_new' (Kd.S_new' ho0 (Kd.R_lt (upR HO158.out))) (Kd.R_lt (upR HO167.out))) (below_size (upC HB.out)))
                  have n3_ := sA (below_step (upC HB.out) hb)
                  clear HO158
                  clear HO167
                  clear HB
                  have HO158 := n0_
                  have HO167 := n1_
                  have HO161 := n2_
                  have HB := n3_
                  clear n0_ n1_ n2_ n3_
                  (try clear hb)
                  (try clear hb2)
                  (try clear hk)
                  (try clear hi)
                  (try clear ho0)
                  refine hK.out _ _ trivial (fun hHeld => ?_)
                  clear hK K
                  refine norm_ (a' := ?_) ?_ ?_
                  rotate_left
                  ·
                   show Act.put _ (some 21) _ = _
                   simp only [Act.put, upL, i64_w, i32_w]
                   rfl
                  exact norm_ upZ (hJ1_5 (v160, v166) _ ⟨(upR HO158.out), (by (with_reducible repeat (first | apply Kd.S_alloc | apply Kd.S_drewN | apply Kd.S_drew)); exact Kd.S_mono HO161.out (fun _ hk => ⟨hk.1.2, hk.2⟩)), (upR HO167.out), (upC HB.out)⟩)
                 ·
                  skip
                  refine Kd.R_make_step (Kd.int .i64) _ 3 (by rfl) (N := 23) rfl 31 _ _ rfl (l0.length : Int) rfl rfl Try.underlying31 (.int .i64 0) 8 info3 rfl (by decide) (by omega) 0 (ok := fun _ => True) (okp := fun _ => True) rfl (fun _ hk => hk) trivial (upA) (Nat.le_trans (Nat.mul_le_mul_right _ (upA : (l0.length : Int).toNat ≤ 35184372088832)) (by omega)) (Below.refl _ _) (Nat.le_refl _) ?_
                  intro v163 w12 ho13 hb hg_ hnew_
                  clear hg_ hnew_
                  (first | rw [← Ny162.out] at ho13 | (simp only [Int.reduceToNat] at ho13; rw [← Ny162.out] at ho13))
                  have n0_ := sA (Kd.R_elder' (upR HO158.out) (Kd.R_base ho13) hb)
                  have n1_ := sA (Kd.R_elder' (upR HO167.out) (Kd.R_base ho13) hb)
                  have n2_ := sA (Kd.R_lower (Kd.R_new' (Kd.R_new' ho13 (Kd.R_lt (upR HO158.out))) (Kd.R_lt (upR HO167.out))) (below_size (upC HB.out)))
                  have n3_ := sA (below_step (upC HB.out) hb)
                  clear HO158
                  clear HO167
                  clear HB
                  have HO158 := n0_
                  have HO167 := n1_
                  have HO164 := n2_
                  have HB := n3_
                  clear n0_ n1_ n2_ n3_
                  clear hb ho13
                  refine hK.out _ _ trivial (fun hHeld => ?_)
                  clear hK K
                  refine norm_ (a' := ?_) ?_ ?_
                  rotate_left
                  ·
                   show Act.put _ (some 23) _ = _
                   simp only [Act.put, upL, i64_w, i32_w]
                   rfl
                  exact norm_ upZ (hJ3_5 (v163, v166) _ ⟨(by (with_reducible repeat (first | apply Kd.R_alloc | apply Kd.R_drewN | apply Kd.R_drew)); exact Kd.R_mono HO158.out (fun _ hk => ⟨hk.2, hk.1⟩)), (by (with_reducible repeat (first | apply Kd.R_alloc | apply Kd.R_drewN | apply Kd.R_drew)); exact Kd.R_mono HO164.out (fun _ hk => ⟨hk.1.2, hk.2⟩)), (upR HO167.out), (upC HB.out)⟩)
                 ·
                  skip
                  refine box_step ?hg (N := 8) ?hd (cs := #[.slice none 0 0, .slice none 0 0, .slice none 0 0]) (t := 75) ?hr ?_; (case hd => rfl); (case hg => rfl); (case hr => first | (go_simp; done) | (go_simp; rfl))
                  intro gb168 hg w12 hbox hb
                  have n0_ := sA (Kd.R_below (upR HO158.out) hb)
                  have n1_ := sA (Kd.R_below (upR HO167.out) hb)
                  have n2_ := sA (below_step (upC HB.out) hb)
                  have n3_ := sA (hbox)
                  have n4_ := sA ((by rw [hg]; exact (below_size (upC HB.out)) : w.heap.size ≤ gb168))
                  have n5_ := sA ((by rw [hg]; exact (below_size (upC HB.out)) : w.heap.size ≤ gb168))
                  clear HO158
                  clear HO167
                  clear HB
                  have HO158 := n0_
                  have HO167 := n1_
                  have HB := n2_
                  have BK168 := n3_
                  have GW168 := n4_
                  have GE168 := n5_
                  clear n0_ n1_ n2_ n3_ n4_ n5_
                  clear hb hbox hg
                  refine hK.out _ _ trivial (fun hHeld => ?_)
                  clear hK K
                  refine norm_ (a' := ?_) ?_ ?_
                  rotate_left
                  ·
                   show Act.put _ (some 8) _ = _
                   simp only [Act.put, upL, i64_w, i32_w]
                   rfl
                  exact norm_ upZ (hJ5_7 (v166, gb168) _ ⟨(upR HO158.out), (upR HO167.out), (upK BK168.out), GW168.out, GE168.out, (upB HB.out GE168.out)⟩)
               ·
                skip
                rintro v163 w11 ⟨h0_, h1_, h2_⟩
                have n0_ := sA h0_
                have n1_ := sA h1_
                have n2_ := sA h2_
                clear HO158
                clear HB
                clear h0_ h1_ h2_
                have HO158 := n0_
                have HO164 := n1_
                have HB := n2_
                clear n0_ n1_ n2_
                have hHeld := trivial
                refine norm_ (a' := ?_) ?_ ?_
                rotate_left
                ·
                 simp only [putAll, Act.put, upL]
                 rfl
                refine three_ (i := 1) (j := 5) (k := 7) (Ni := some 21) (Nj := some 25) (Nk := some 8) #[true, true, true, true, true, false, false, false, false] #[true, false, true, true, true, true, false, false, false] #[true, false, true, true, true, false, false, true, false] rfl rfl rfl rfl rfl rfl (three_of HT_.out (by kernel_rfl)) (by decide) (by decide) (by decide) (fun K hK => ?_) (fun K hK => ?_) (fun K hK => ?_)
                ·
                 skip
                 refine goes_ Try.func32 (by kernel_rfl) rfl #[.slice A0 l0.length c0] (by rfl) rfl rfl upM ?_
                 with_reducible refine (kinkeepref35_Clone.calls k _ _ l0 t159 _ ?side1 ?side2 A4.out).mono ?_
                 (case side1 => exact upX (Kd.C_below HR0.out HB.out))
                 (case side2 => exact HC0.out)
                 rintro e w12 ⟨v160, rfl, ho0, hb⟩
                 refine ⟨_, rfl, ?_⟩
                 have n0_ := sA (Kd.R_below (upR HO158.out) hb)
                 have n1_ := sA (Kd.R_below (upR HO164.out) hb)
                 have n2_ := sA (Kd.S_lower (Kd.S_new' (Kd.S_new' ho0 (Kd.R_lt (upR HO158.out))) (Kd.R_lt (upR HO164.out))) (below_size (upC HB.out)))
                 have n3_ := sA (below_step (upC HB.out) hb)
                 clear HO158
                 clear HO164
                 clear HB
                 have HO158 := n0_
                 have HO164 := n1_
                 have HO161 := n2_
                 have HB := n3_
                 clear n0_ n1_ n2_ n3_
                 (try clear hb)
                 (try clear hb2)
                 (try clear hk)
                 (try clear hi)
                 (try clear ho0)
                 refine hK.out _ _ trivial (fun hHeld => ?_)
                 clear hK K
                 refine norm_ (a' := ?_) ?_ ?_
                 rotate_left
                 ·
                  show Act.put _ (some 21) _ = _
                  simp only [Act.put, upL, i64_w, i32_w]
                  rfl
                 exact norm_ upZ (hJ1_3 (v160, v163) _ ⟨(upR HO158.out), (by (with_reducible repeat (first | apply Kd.S_alloc | apply Kd.S_drewN | apply Kd.S_drew)); exact Kd.S_mono HO161.out (fun _ hk => ⟨hk.1.2, hk.2⟩)), (upR HO164.out), (upC HB.out)⟩)
                ·
                 skip
                 refine Kd.R_make_step (Kd.int .i64) _ 3 (by rfl) (N := 25) rfl 31 _ _ rfl (l0.length : Int) rfl rfl Try.underlying31 (.int .i64 0) 8 info3 rfl (by decide) (by omega) 0 (ok := fun _ => True) (okp := fun _ => True) rfl (fun _ hk => hk) trivial (upA) (Nat.le_trans (Nat.mul_le_mul_right _ (upA : (l0.length : Int).toNat ≤ 35184372088832)) (by omega)) (Below.refl _ _) (Nat.le_refl _) ?_
                 intro v166 w12 ho13 hb hg_ hnew_
                 clear hg_ hnew_
                 (first | rw [← Ny165.out] at ho13 | (simp only [Int.reduceToNat] at ho13; rw [← Ny165.out] at ho13))
                 have n0_ := sA (Kd.R_elder' (upR HO158.out) (Kd.R_base ho13) hb)
                 have n1_ := sA (Kd.R_elder' (upR HO164.out) (Kd.R_base ho13) hb)
                 have n2_ := sA (Kd.R_lower (Kd.R_new' (Kd.R_new' ho13 (Kd.R_lt (upR HO158.out))) (Kd.R_lt (upR HO164.out))) (below_size (upC HB.out)))
                 have n3_ := sA (below_step (upC HB.out) hb)
                 clear HO158
                 clear HO164
                 clear HB
                 have HO158 := n0_
                 have HO164 := n1_
                 have HO167 := n2_
                 have HB := n3_
                 clear n0_ n1_ n2_ n3_
                 clear hb ho13
                 refine hK.out _ _ trivial (fun hHeld => ?_)
                 clear hK K
                 refine norm_ (a' := ?_) ?_ ?_
                 rotate_left
                 ·
                  show Act.put _ (some 25) _ = _
                  simp only [Act.put, upL, i64_w, i32_w]
                  rfl
                 exact norm_ upZ (hJ3_5 (v163, v166) _ ⟨(upR HO158.out), (upR HO164.out), (by (with_reducible repeat (first | apply Kd.R_alloc | apply Kd.R_drewN | apply Kd.R_drew)); exact Kd.R_mono HO167.out (fun _ hk => ⟨hk.1.2, hk.2⟩)), (upC HB.out)⟩)
                ·
                 skip
                 refine box_step ?hg (N := 8) ?hd (cs := #[.slice none 0 0, .slice none 0 0, .slice none 0 0]) (t := 75) ?hr ?_; (case hd => rfl); (case hg => rfl); (case hr => first | (go_simp; done) | (go_simp; rfl))
                 intro gb168 hg w12 hbox hb
                 have n0_ := sA (Kd.R_below (upR HO158.out) hb)
                 have n1_ := sA (Kd.R_below (upR HO164.out) hb)
                 have n2_ := sA (below_step (upC HB.out) hb)
                 have n3_ := sA (hbox)
                 have n4_ := sA ((by rw [hg]; exact (below_size (upC HB.out)) : w.heap.size ≤ gb168))
                 have n5_ := sA ((by rw [hg]; exact (below_size (upC HB.out)) : w.heap.size ≤ gb168))
                 clear HO158
                 clear HO164
                 clear HB
                 have HO158 := n0_
                 have HO164 := n1_
                 have HB := n2_
                 have BK168 := n3_
                 have GW168 := n4_
                 have GE168 := n5_
                 clear n0_ n1_ n2_ n3_ n4_ n5_
                 clear hb hbox hg
                 refine hK.out _ _ trivial (fun hHeld => ?_)
                 clear hK K
                 refine norm_ (a' := ?_) ?_ ?_
                 rotate_left
                 ·
                  show Act.put _ (some 8) _ = _
                  simp only [Act.put, upL, i64_w, i32_w]
                  rfl
                 exact norm_ upZ (hJ3_7 (v163, gb168) _ ⟨(upR HO158.out), (upR HO164.out), (upK BK168.out), GW168.out, GE168.out, (upB HB.out GE168.out)⟩)
              ·
               skip
               rintro v160 w10 ⟨h0_, h1_, h2_⟩
               have n0_ := sA h0_
               have n1_ := sA h1_
               have n2_ := sA h2_
               clear HO158
               clear HB
               clear h0_ h1_ h2_
               have HO158 := n0_
               have HO161 := n1_
               have HB := n2_
               clear n0_ n1_ n2_
               have hHeld := trivial
               refine norm_ (a' := ?_) ?_ ?_
               rotate_left
               ·
                simp only [putAll, Act.put, upL]
                rfl
               refine three_ (i := 3) (j := 5) (k := 7) (Ni := some 23) (Nj := some 25) (Nk := some 8) #[true, true, true, true, true, false, false, false, false] #[true, true, true, false, true, true, false, false, false] #[true, true, true, false, true, false, false, true, false] rfl rfl rfl rfl rfl rfl (three_of HT_.out (by kernel_rfl)) (by decide) (by decide) (by decide) (fun K hK => ?_) (fun K hK => ?_) (fun K hK => ?_)
               ·
                skip
                refine Kd.R_make_step (Kd.int .i64) _ 3 (by rfl) (N := 23) rfl 31 _ _ rfl (l0.length : Int) rfl rfl Try.underlying31 (.int .i64 0) 8 info3 rfl (by decide) (by omega) 0 (ok := fun _ => True) (okp := fun _ => True) rfl (fun _ hk => hk) trivial (upA) (Nat.le_trans (Nat.mul_le_mul_right _ (upA : (l0.length : Int).toNat ≤ 35184372088832)) (by omega)) (Below.refl _ _) (Nat.le_refl _) ?_
                intro v163 w11 ho12 hb hg_ hnew_
                clear hg_ hnew_
                (first | rw [← Ny162.out] at ho12 | (simp only [Int.reduceToNat] at ho12; rw [← Ny162.out] at ho12))
                have n0_ := sA (Kd.R_elder' (upR HO158.out) (Kd.R_base ho12) hb)
                have n1_ := sA (Kd.S_elder' (upS HO161.out) (Kd.R_base ho12) hb)
                have n2_ := sA (Kd.R_lower (Kd.R_new' ho12 (Kd.R_lt (upR HO158.out))) (below_size (upC HB.out)))
                have n3_ := sA (below_step (upC HB.out) hb)
                clear HO158
                clear HO161
                clear HB
                have HO158 := n0_
                have HO161 := n1_
                have HO164 := n2_
                have HB := n3_
                clear n0_ n1_ n2_ n3_
                clear hb ho12
                refine hK.out _ _ trivial (fun hHeld => ?_)
                clear hK K
                refine norm_ (a' := ?_) ?_ ?_
                rotate_left
                ·
                 show Act.put _ (some 23) _ = _
                 simp only [Act.put, upL, i64_w, i32_w]
                 rfl
                exact norm_ upZ (hJ1_3 (v160, v163) _ ⟨(by (with_reducible repeat (first | apply Kd.R_alloc | apply Kd.R_drewN | apply Kd.R_drew)); exact Kd.R_mono HO158.out (fun _ hk => hk.2)), (upS HO161.out), (by (with_reducible repeat (first | apply Kd.R_alloc | apply Kd.R_drewN | apply Kd.R_drew)); exact Kd.R_mono HO164.out (fun _ hk => hk.2)), (upC HB.out)⟩)
               ·
                skip
                refine Kd.R_make_step (Kd.int .i64) _ 3 (by rfl) (N := 25) rfl 31 _ _ rfl (l0.length : Int) rfl rfl Try.underlying31 (.int .i64 0) 8 info3 rfl (by decide) (by omega) 0 (ok := fun _ => True) (okp := fun _ => True) rfl (fun _ hk => hk) trivial (upA) (Nat.le_trans (Nat.mul_le_mul_right _ (upA : (l0.length : Int).toNat ≤ 35184372088832)) (by omega)) (Below.refl _ _) (Nat.le_refl _) ?_
                intro v166 w11 ho12 hb hg_ hnew_
                clear hg_ hnew_
                (first | rw [← Ny165.out] at ho12 | (simp only [Int.reduceToNat] at ho12; rw [← Ny165.out] at ho12))
                have n0_ := sA (Kd.R_elder' (upR HO158.out) (Kd.R_base ho12) hb)
                have n1_ := sA (Kd.S_elder' (upS HO161.out) (Kd.R_base ho12) hb)
                have n2_ := sA (Kd.R_lower (Kd.R_new' ho12 (Kd.R_lt (upR HO158.out))) (below_size (upC HB.out)))
                have n3_ := sA (below_step (upC HB.out) hb)
                clear HO158
                clear HO161
                clear HB
                have HO158 := n0_
                have HO161 := n1_
                have HO167 := n2_
                have HB := n3_
                clear n0_ n1_ n2_ n3_
                clear hb ho12
                refine hK.out _ _ trivial (fun hHeld => ?_)
                clear hK K
                refine norm_ (a' := ?_) ?_ ?_
                rotate_left
                ·
                 show Act.put _ (some 25) _ = _
                 simp only [Act.put, upL, i64_w, i32_w]
                 rfl
                exact norm_ upZ (hJ1_5 (v160, v166) _ ⟨(by (with_reducible repeat (first | apply Kd.R_alloc | apply Kd.R_drewN | apply Kd.R_drew)); exact Kd.R_mono HO158.out (fun _ hk => hk.2)), (upS HO161.out), (by (with_reducible repeat (first | apply Kd.R_alloc | apply Kd.R_drewN | apply Kd.R_drew)); exact Kd.R_mono HO167.out (fun _ hk => hk.2)), (upC HB.out)⟩)
               ·
                skip
                refine box_step ?hg (N := 8) ?hd (cs := #[.slice none 0 0, .slice none 0 0, .slice none 0 0]) (t := 75) ?hr ?_; (case hd => rfl); (case hg => rfl); (case hr => first | (go_simp; done) | (go_simp; rfl))
                intro gb168 hg w11 hbox hb
                have n0_ := sA (Kd.R_below (upR HO158.out) hb)
                have n1_ := sA (Kd.S_below (upS HO161.out) hb)
                have n2_ := sA (below_step (upC HB.out) hb)
                have n3_ := sA (hbox)
                have n4_ := sA ((by rw [hg]; exact (below_size (upC HB.out)) : w.heap.size ≤ gb168))
                have n5_ := sA ((by rw [hg]; exact (below_size (upC HB.out)) : w.heap.size ≤ gb168))
                clear HO158
                clear HO161
                clear HB
                have HO158 := n0_
                have HO161 := n1_
                have HB := n2_
                have BK168 := n3_
                have GW168 := n4_
                have GE168 := n5_
                clear n0_ n1_ n2_ n3_ n4_ n5_
                clear hb hbox hg
                refine hK.out _ _ trivial (fun hHeld => ?_)
                clear hK K
                refine norm_ (a' := ?_) ?_ ?_
                rotate_left
                ·
                 show Act.put _ (some 8) _ = _
                 simp only [Act.put, upL, i64_w, i32_w]
                 rfl
                exact norm_ upZ (hJ1_7 (v160, gb168) _ ⟨(upR HO158.out), (upS HO161.out), (upK BK168.out), GW168.out, GE168.out, (upB HB.out GE168.out)⟩)
             ·
              skip
              rintro ⟨v166, gb168⟩ w12 ⟨h0_, h1_, h2_, h3_, h4_, h5_⟩
              have n0_ := sA h0_
              have n1_ := sA h1_
              have n2_ := sA h2_
              have n3_ := sA h3_
              have n4_ := sA h4_
              have n5_ := sA h5_
              clear HO158
              clear HB
              clear h0_ h1_ h2_ h3_ h4_ h5_
              have HO158 := n0_
              have HO167 := n1_
              have BK168 := n2_
              have GW168 := n3_
              have GE168 := n4_
              have HB := n5_
              clear n0_ n1_ n2_ n3_ n4_ n5_
              have hHeld := trivial
              refine norm_ (a' := ?_) ?_ ?_
              rotate_left
              ·
               simp only [putAll, Act.put, upL]
               rfl
              refine two_ (i := 1) (j := 3) (Ni := some 21) (Nj := some 23) #[true, true, true, false, true, true, false, true, false] #[true, false, true, true, true, true, false, true, false] rfl rfl rfl rfl (two_of HT_.out (by kernel_rfl)) (by decide) (by decide) (fun K hK => ?_) (fun K hK => ?_)
              ·
               skip
               refine goes_ Try.func32 (by kernel_rfl) rfl #[.slice A0 l0.length c0] (by rfl) rfl rfl upM ?_
               with_reducible refine (kinkeepref35_Clone.calls k _ _ l0 t159 _ ?side1 ?side2 A4.out).mono ?_
               (case side1 => exact upX (Kd.C_below HR0.out HB.out))
               (case side2 => exact HC0.out)
               rintro e w13 ⟨v160, rfl, ho0, hb⟩
               refine ⟨_, rfl, ?_⟩
               have n0_ := sA (Kd.R_below (upR HO158.out) hb)
               have n1_ := sA (Kd.R_below (upR HO167.out) hb)
               have n2_ := sA (Kd.S_lower (Kd.S_new' (Kd.S_new' ho0 (Kd.R_lt (upR HO158.out))) (Kd.R_lt (upR HO167.out))) (below_size (upB HB.out GE168.out)))
               have n3_ := sA (blk_below (g := gb168) (upK BK168.out) hb)
               have n4_ := sA (below_step (upB HB.out GE168.out) hb)
               clear HO158
               clear HO167
               clear BK168
               clear HB
               have HO158 := n0_
               have HO167 := n1_
               have HO161 := n2_
               have BK168 := n3_
               have HB := n4_
               clear n0_ n1_ n2_ n3_ n4_
               (try clear hb)
               (try clear hb2)
               (try clear hk)
               (try clear hi)
               (try clear ho0)
               refine hK.out _ _ trivial (fun hHeld => ?_)
               clear hK K
               refine norm_ (a' := ?_) ?_ ?_
               rotate_left
               ·
                show Act.put _ (some 21) _ = _
                simp only [Act.put, upL, i64_w, i32_w]
                rfl
               exact norm_ upZ (hJ1_5_7 (v160, v166, gb168) _ ⟨(upR HO158.out), (by (with_reducible repeat (first | apply Kd.S_alloc | apply Kd.S_drewN | apply Kd.S_drew)); exact Kd.S_mono HO161.out (fun _ hk => ⟨hk.1.2, hk.2⟩)), (upR HO167.out), (upK BK168.out), GW168.out, GE168.out, (upB HB.out GE168.out)⟩)
              ·
               skip
               refine Kd.R_make_step (Kd.int .i64) _ 3 (by rfl) (N := 23) rfl 31 _ _ rfl (l0.length : Int) rfl rfl Try.underlying31 (.int .i64 0) 8 info3 rfl (by decide) (by omega) 0 (ok := fun _ => True) (okp := fun _ => True) rfl (fun _ hk => hk) trivial (upA) (Nat.le_trans (Nat.mul_le_mul_right _ (upA : (l0.length : Int).toNat ≤ 35184372088832)) (by omega)) (Below.refl _ _) (Nat.le_refl _) ?_
               intro v163 w13 ho14 hb hg_ hnew_
               clear hg_ hnew_
               (first | rw [← Ny162.out] at ho14 | (simp only [Int.reduceToNat] at ho14; rw [← Ny162.out] at ho14))
               have n0_ := sA (Kd.R_elder' (upR HO158.out) (Kd.R_base ho14) hb)
               have n1_ := sA (Kd.R_elder' (upR HO167.out) (Kd.R_base ho14) hb)
               have n2_ := sA (Kd.R_lower (Kd.R_new' (Kd.R_new' ho14 (Kd.R_lt (upR HO158.out))) (Kd.R_lt (upR HO167.out))) (below_size (upB HB.out GE168.out)))
               have n3_ := sA (blk_below (g := gb168) (upK BK168.out) hb)
               have n4_ := sA (below_step (upB HB.out GE168.out) hb)
               clear HO158
               clear HO167
               clear BK168
               clear HB
               have HO158 := n0_
               have HO167 := n1_
               have HO164 := n2_
               have BK168 := n3_
               have HB := n4_
               clear n0_ n1_ n2_ n3_ n4_
               clear hb ho14
               refine hK.out _ _ trivial (fun hHeld => ?_)
               clear hK K
               refine norm_ (a' := ?_) ?_ ?_
               rotate_left
               ·
                show Act.put _ (some 23) _ = _
                simp only [Act.put, upL, i64_w, i32_w]
                rfl
               exact norm_ upZ (hJ3_5_7 (v163, v166, gb168) _ ⟨(by (with_reducible repeat (first | apply Kd.R_alloc | apply Kd.R_drewN | apply Kd.R_drew)); exact Kd.R_mono HO158.out (fun _ hk => ⟨hk.2, hk.1⟩)), (by (with_reducible repeat (first | apply Kd.R_alloc | apply Kd.R_drewN | apply Kd.R_drew)); exact Kd.R_mono HO164.out (fun _ hk => ⟨hk.1.2, hk.2⟩)), (upR HO167.out), (upK BK168.out), GW168.out, GE168.out, (upB HB.out GE168.out)⟩)
            ·
             skip
             rintro ⟨v163, gb168⟩ w12 ⟨h0_, h1_, h2_, h3_, h4_, h5_⟩
             have n0_ := sA h0_
             have n1_ := sA h1_
             have n2_ := sA h2_
             have n3_ := sA h3_
             have n4_ := sA h4_
             have n5_ := sA h5_
             clear HO158
             clear HB
             clear h0_ h1_ h2_ h3_ h4_ h5_
             have HO158 := n0_
             have HO164 := n1_
             have BK168 := n2_
             have GW168 := n3_
             have GE168 := n4_
             have HB := n5_
             clear n0_ n1_ n2_ n3_ n4_ n5_
             have hHeld := trivial
             refine norm_ (a' := ?_) ?_ ?_
             rotate_left
             ·
              simp only [putAll, Act.put, upL]
              rfl
             refine two_ (i := 1) (j := 5) (Ni := some 21) (Nj := some 25) #[true, true, true, true, true, false, false, true, false] #[true, false, true, true, true, true, false, true, false] rfl rfl rfl rfl (two_of HT_.out (by kernel_rfl)) (by decide) (by decide) (fun K hK => ?_) (fun K hK => ?_)
             ·
              skip
              refine goes_ Try.func32 (by kernel_rfl) rfl #[.slice A0 l0.length c0] (by rfl) rfl rfl upM ?_
              with_reducible refine (kinkeepref35_Clone.calls k _ _ l0 t159 _ ?side1 ?side2 A4.out).mono ?_
              (case side1 => exact upX (Kd.C_below HR0.out HB.out))
              (case side2 => exact HC0.out)
              rintro e w13 ⟨v160, rfl, ho0, hb⟩
              refine ⟨_, rfl, ?_⟩
              have n0_ := sA (Kd.R_below (upR HO158.out) hb)
              have n1_ := sA (Kd.R_below (upR HO164.out) hb)
              have n2_ := sA (Kd.S_lower (Kd.S_new' (Kd.S_new' ho0 (Kd.R_lt (upR HO158.out))) (Kd.R_lt (upR HO164.out))) (below_size (upB HB.out GE168.out)))
              have n3_ := sA (blk_below (g := gb168) (upK BK168.out) hb)
              have n4_ := sA (below_step (upB HB.out GE168.out) hb)
              clear HO158
              clear HO164
              clear BK168
              clear HB
              have HO158 := n0_
              have HO164 := n1_
              have HO161 := n2_
              have BK168 := n3_
              have HB := n4_
              clear n0_ n1_ n2_ n3_ n4_
              (try clear hb)
              (try clear hb2)
              (try clear hk)
              (try clear hi)
              (try clear ho0)
              refine hK.out _ _ trivial (fun hHeld => ?_)
              clear hK K
              refine norm_ (a' := ?_) ?_ ?_
              rotate_left
              ·
               show Act.put _ (some 21) _ = _
               simp only [Act.put, upL, i64_w, i32_w]
               rfl
              exact norm_ upZ (hJ1_3_7 (v160, v163, gb168) _ ⟨(upR HO158.out), (by (with_reducible repeat (first | apply Kd.S_alloc | apply Kd.S_drewN | apply Kd.S_drew)); exact Kd.S_mono HO161.out (fun _ hk => ⟨hk.1.2, hk.2⟩)), (upR HO164.out), (upK BK168.out), GW168.out, GE168.out, (upB HB.out GE168.out)⟩)
             ·
              skip
              refine Kd.R_make_step (Kd.int .i64) _ 3 (by rfl) (N := 25) rfl 31 _ _ rfl (l0.length : Int) rfl rfl Try.underlying31 (.int .i64 0) 8 info3 rfl (by decide) (by omega) 0 (ok := fun _ => True) (okp := fun _ => True) rfl (fun _ hk => hk) trivial (upA) (Nat.le_trans (Nat.mul_le_mul_right _ (upA : (l0.length : Int).toNat ≤ 35184372088832)) (by omega)) (Below.refl _ _) (Nat.le_refl _) ?_
              intro v166 w13 ho14 hb hg_ hnew_
              clear hg_ hnew_
              (first | rw [← Ny165.out] at ho14 | (simp only [Int.reduceToNat] at ho14; rw [← Ny165.out] at ho14))
              have n0_ := sA (Kd.R_elder' (upR HO158.out) (Kd.R_base ho14) hb)
              have n1_ := sA (Kd.R_elder' (upR HO164.out) (Kd.R_base ho14) hb)
              have n2_ := sA (Kd.R_lower (Kd.R_new' (Kd.R_new' ho14 (Kd.R_lt (upR HO158.out))) (Kd.R_lt (upR HO164.out))) (below_size (upB HB.out GE168.out)))
              have n3_ := sA (blk_below (g := gb168) (upK BK168.out) hb)
              have n4_ := sA (below_step (upB HB.out GE168.out) hb)
              clear HO158
              clear HO164
              clear BK168
              clear HB
              have HO158 := n0_
              have HO164 := n1_
              have HO167 := n2_
              have BK168 := n3_
              have HB := n4_
              clear n0_ n1_ n2_ n3_ n4_
              clear hb ho14
              refine hK.out _ _ trivial (fun hHeld => ?_)
              clear hK K
              refine norm_ (a' := ?_) ?_ ?_
              rotate_left
              ·
               show Act.put _ (some 25) _ = _
               simp only [Act.put, upL, i64_w, i32_w]
               rfl
              exact norm_ upZ (hJ3_5_7 (v163, v166, gb168) _ ⟨(upR HO158.out), (upR HO164.out), (by (with_reducible repeat (first | apply Kd.R_alloc | apply Kd.R_drewN | apply Kd.R_drew)); exact Kd.R_mono HO167.out (fun _ hk => ⟨hk.1.2, hk.2⟩)), (upK BK168.out), GW168.out, GE168.out, (upB HB.out GE168.out)⟩)
           ·
            skip
            rintro ⟨v163, v166⟩ w13 ⟨h0_, h1_, h2_, h3_⟩
            have n0_ := sA h0_
            have n1_ := sA h1_
            have n2_ := sA h2_
            have n3_ := sA h3_
            clear HO158
            clear HB
            clear h0_ h1_ h2_ h3_
            have HO158 := n0_
            have HO164 := n1_
            have HO167 := n2_
            have HB := n3_
            clear n0_ n1_ n2_ n3_
            have hHeld := trivial
            refine norm_ (a' := ?_) ?_ ?_
            rotate_left
            ·
             simp only [putAll, Act.put, upL]
             rfl
            refine two_ (i := 1) (j := 7) (Ni := some 21) (Nj := some 8) #[true, true, true, true, true, true, false, false, false] #[true, false, true, true, true, true, false, true, false] rfl rfl rfl rfl (two_of HT_.out (by kernel_rfl)) (by decide) (by decide) (fun K hK => ?_) (fun K hK => ?_)
            ·
             skip
             refine goes_ Try.func32 (by kernel_rfl) rfl #[.slice A0 l0.length c0] (by rfl) rfl rfl upM ?_
             with_reducible refine (kinkeepref35_Clone.calls k _ _ l0 t159 _ ?side1 ?side2 A4.out).mono ?_
             (case side1 => exact upX (Kd.C_below HR0.out HB.out))
             (case side2 => exact HC0.out)
             rintro e w14 ⟨v160, rfl, ho0, hb⟩
             refine ⟨_, rfl, ?_⟩
             have n0_ := sA (Kd.R_below (upR HO158.out) hb)
             have n1_ := sA (Kd.R_below (upR HO164.out) hb)
             have n2_ := sA (Kd.R_below (upR HO167.out) hb)
             have n3_ := sA (Kd.S_lower (Kd.S_new' (Kd.S_new' (Kd.S_new' ho0 (Kd.R_lt (upR HO158.out))) (Kd.R_lt (upR HO164.out))) (Kd.R_lt (upR HO167.out))) (below_size (upC HB.out)))
             have n4_ := sA (below_step (upC HB.out) hb)
             clear HO158
             clear HO164
             clear HO167
             clear HB
             have HO158 := n0_
             have HO164 := n1_
             have HO167 := n2_
             have HO161 := n3_
             have HB := n4_
             clear n0_ n1_ n2_ n3_ n4_
             (try clear hb)
             (try clear hb2)
             (try clear hk)
             (try clear hi)
             (try clear ho0)
             obtain ⟨Ao15, co15, eo15⟩ := Kd.R_slice HO167.out
             (first | subst eo15 | (injection eo15 with f1_ f2_ f3_; have f4_ := f1_.symm; have f5_ := f3_.symm; clear f1_ f2_ f3_; subst f4_; subst f5_))
             obtain ⟨Ao16, co16, eo16⟩ := Kd.S_slice HO161.out
             (first | subst eo16 | (injection eo16 with f1_ f2_ f3_; have f4_ := f1_.symm; have f5_ := f3_.symm; clear f1_ f2_ f3_; subst f4_; subst f5_))
             obtain ⟨Ao17, co17, eo17⟩ := Kd.R_slice HO164.out
             (first | subst eo17 | (injection eo17 with f1_ f2_ f3_; have f4_ := f1_.symm; have f5_ := f3_.symm; clear f1_ f2_ f3_; subst f4_; subst f5_))
             refine hK.out _ _ trivial (fun hHeld => ?_)
             clear hK K
             refine norm_ (a' := ?_) ?_ ?_
             rotate_left
             ·
              show Act.put _ (some 21) _ = _
              simp only [Act.put, upL, i64_w, i32_w]
              rfl
             refine pure_ (i := 6) (N := some 26) (v := ?_) (a' := ?_) #[true, true, true, true, true, true, true, false, false] rfl rfl (any_of HT_.out (by kernel_rfl)) (fun _ _ _ h => h) (Or.inl ⟨by rfl, ?_⟩) ?_ ?_
             rotate_left
             ·
              intro w'
              go_simp
              with_reducible rfl
             rotate_left
             ·
              simp only [Act.put, upL, i64_w, i32_w]
              rfl
             exact norm_ upZ (hJ1_3_5 (.slice Ao16 t159.length co16, .slice Ao17 y162.length co17, .slice Ao15 y165.length co15) _ ⟨(upR HO158.out), (by (with_reducible repeat (first | apply Kd.S_alloc | apply Kd.S_drewN | apply Kd.S_drew)); exact Kd.S_mono HO161.out (fun _ hk => ⟨hk.1.1.2, ⟨hk.1.2, hk.2⟩⟩)), (upR HO164.out), (upR HO167.out), (upC HB.out)⟩)
            ·
             skip
             refine box_step ?hg (N := 8) ?hd (cs := #[.slice none 0 0, .slice none 0 0, .slice none 0 0]) (t := 75) ?hr ?_; (case hd => rfl); (case hg => rfl); (case hr => first | (go_simp; done) | (go_simp; rfl))
             intro gb168 hg w14 hbox hb
             have n0_ := sA (Kd.R_below (upR HO158.out) hb)
             have n1_ := sA (Kd.R_below (upR HO164.out) hb)
             have n2_ := sA (Kd.R_below (upR HO167.out) hb)
             have n3_ := sA (below_step (upC HB.out) hb)
             have n4_ := sA (hbox)
             have n5_ := sA ((by rw [hg]; exact (below_size (upC HB.out)) : w.heap.size ≤ gb168))
             have n6_ := sA ((by rw [hg]; exact (below_size (upC HB.out)) : w.heap.size ≤ gb168))
             clear HO158
             clear HO164
             clear HO167
             clear HB
             have HO158 := n0_
             have HO164 := n1_
             have HO167 := n2_
             have HB := n3_
             have BK168 := n4_
             have GW168 := n5_
             have GE168 := n6_
             clear n0_ n1_ n2_ n3_ n4_ n5_ n6_
             clear hb hbox hg
             refine hK.out _ _ trivial (fun hHeld => ?_)
             clear hK K
             refine norm_ (a' := ?_) ?_ ?_
             rotate_left
             ·
              show Act.put _ (some 8) _ = _
              simp only [Act.put, upL, i64_w, i32_w]
              rfl
             exact norm_ upZ (hJ3_5_7 (v163, v166, gb168) _ ⟨(upR HO158.out), (upR HO164.out), (upR HO167.out), (upK BK168.out), GW168.out, GE168.out, (upB HB.out GE168.out)⟩)
          ·
           skip
           rintro ⟨v160, gb168⟩ w11 ⟨h0_, h1_, h2_, h3_, h4_, h5_⟩
           have n0_ := sA h0_
           have n1_ := sA h1_
           have n2_ := sA h2_
           have n3_ := sA h3_
           have n4_ := sA h4_
           have n5_ := sA h5_
           clear HO158
           clear HB
           clear h0_ h1_ h2_ h3_ h4_ h5_
           have HO158 := n0_
           have HO161 := n1_
           have BK168 := n2_
           have GW168 := n3_
           have GE168 := n4_
           have HB := n5_
           clear n0_ n1_ n2_ n3_ n4_ n5_
           have hHeld := trivial
           refine norm_ (a' := ?_) ?_ ?_
           rotate_left
           ·
            simp only [putAll, Act.put, upL]
            rfl
           refine two_ (i := 3) (j := 5) (Ni := some 23) (Nj := some 25) #[true, true, true, true, true, false, false, true, false] #[true, true, true, false, true, true, false, true, false] rfl rfl rfl rfl (two_of HT_.out (by kernel_rfl)) (by decide) (by decide) (fun K hK => ?_) (fun K hK => ?_)
           ·
            skip
            refine Kd.R_make_step (Kd.int .i64) _ 3 (by rfl) (N := 23) rfl 31 _ _ rfl (l0.length : Int) rfl rfl Try.underlying31 (.int .i64 0) 8 info3 rfl (by decide) (by omega) 0 (ok := fun _ => True) (okp := fun _ => True) rfl (fun _ hk => hk) trivial (upA) (Nat.le_trans (Nat.mul_le_mul_right _ (upA : (l0.length : Int).toNat ≤ 35184372088832)) (by omega)) (Below.refl _ _) (Nat.le_refl _) ?_
            intro v163 w12 ho13 hb hg_ hnew_
            clear hg_ hnew_
            (first | rw [← Ny162.out] at ho13 | (simp only [Int.reduceToNat] at ho13; rw [← Ny162.out] at ho13))
            have n0_ := sA (Kd.R_elder' (upR HO158.out) (Kd.R_base ho13) hb)
            have n1_ := sA (Kd.S_elder' (upS HO161.out) (Kd.R_base ho13) hb)
            have n2_ := sA (Kd.R_lower (Kd.R_new' ho13 (Kd.R_lt (upR HO158.out))) (below_size (upB HB.out GE168.out)))
            have n3_ := sA (blk_below (g := gb168) (upK BK168.out) hb)
            have n4_ := sA (below_step (upB HB.out GE168.out) hb)
            clear HO158
            clear HO161
            clear BK168
            clear HB
            have HO158 := n0_
            have HO161 := n1_
            have HO164 := n2_
            have BK168 := n3_
            have HB := n4_
            clear n0_ n1_ n2_ n3_ n4_
            clear hb ho13
            refine hK.out _ _ trivial (fun hHeld => ?_)
            clear hK K
            refine norm_ (a' := ?_) ?_ ?_
            rotate_left
            ·
             show Act.put _ (some 23) _ = _
             simp only [Act.put, upL, i64_w, i32_w]
             rfl
            exact norm_ upZ (hJ1_3_7 (v160, v163, gb168) _ ⟨(by (with_reducible repeat (first | apply Kd.R_alloc | apply Kd.R_drewN | apply Kd.R_drew)); exact Kd.R_mono HO158.out (fun _ hk => hk.2)), (upS HO161.out), (by (with_reducible repeat (first | apply Kd.R_alloc | apply Kd.R_drewN | apply Kd.R_drew)); exact Kd.R_mono HO164.out (fun _ hk => hk.2)), (upK BK168.out), GW168.out, GE168.out, (upB HB.out GE168.out)⟩)
           ·
            skip
            refine Kd.R_make_step (Kd.int .i64) _ 3 (by rfl) (N := 25) rfl 31 _ _ rfl (l0.length : Int) rfl rfl Try.underlying31 (.int .i64 0) 8 info3 rfl (by decide) (by omega) 0 (ok := fun _ => True) (okp := fun _ => True) rfl (fun _ hk => hk) trivial (upA) (Nat.le_trans (Nat.mul_le_mul_right _ (upA : (l0.length : Int).toNat ≤ 35184372088832)) (by omega)) (Below.refl _ _) (Nat.le_refl _) ?_
            intro v166 w12 ho13 hb hg_ hnew_
            clear hg_ hnew_
            (first | rw [← Ny165.out] at ho13 | (simp only [Int.reduceToNat] at ho13; rw [← Ny165.out] at ho13))
            have n0_ := sA (Kd.R_elder' (upR HO158.out) (Kd.R_base ho13) hb)
            have n1_ := sA (Kd.S_elder' (upS HO161.out) (Kd.R_base ho13) hb)
            have n2_ := sA (Kd.R_lower (Kd.R_new' ho13 (Kd.R_lt (upR HO158.out))) (below_size (upB HB.out GE168.out)))
            have n3_ := sA (blk_below (g := gb168) (upK BK168.out) hb)
            have n4_ := sA (below_step (upB HB.out GE168.out) hb)
            clear HO158
            clear HO161
            clear BK168
            clear HB
            have HO158 := n0_
            have HO161 := n1_
            have HO167 := n2_
            have BK168 := n3_
            have HB := n4_
            clear n0_ n1_ n2_ n3_ n4_
            clear hb ho13
            refine hK.out _ _ trivial (fun hHeld => ?_)
            clear hK K
            refine norm_ (a' := ?_) ?_ ?_
            rotate_left
            ·
             show Act.put _ (some 25) _ = _
             simp only [Act.put, upL, i64_w, i32_w]
             rfl
            exact norm_ upZ (hJ1_5_7 (v160, v166, gb168) _ ⟨(by (with_reducible repeat (first | apply Kd.R_alloc | apply Kd.R_drewN | apply Kd.R_drew)); exact Kd.R_mono HO158.out (fun _ hk => hk.2)), (upS HO161.out), (by (with_reducible repeat (first | apply Kd.R_alloc | apply Kd.R_drewN | apply Kd.R_drew)); exact Kd.R_mono HO167.out (fun _ hk => hk.2)), (upK BK168.out), GW168.out, GE168.out, (upB HB.out GE168.out)⟩)
         ·
          skip
          rintro ⟨v160, v166⟩ w12 ⟨h0_, h1_, h2_, h3_⟩
          have n0_ := sA h0_
          have n1_ := sA h1_
          have n2_ := sA h2_
          have n3_ := sA h3_
          clear HO158
          clear HB
          clear h0_ h1_ h2_ h3_
          have HO158 := n0_
          have HO161 := n1_
          have HO167 := n2_
          have HB := n3_
          clear n0_ n1_ n2_ n3_
          have hHeld := trivial
          refine norm_ (a' := ?_) ?_ ?_
          rotate_left
          ·
           simp only [putAll, Act.put, upL]
           rfl
          refine two_ (i := 3) (j := 7) (Ni := some 23) (Nj := some 8) #[true, true, true, true, true, true, false, false, false] #[true, true, true, false, true, true, false, true, false] rfl rfl rfl rfl (two_of HT_.out (by kernel_rfl)) (by decide) (by decide) (fun K hK => ?_) (fun K hK => ?_)
          ·
           skip
           refine Kd.R_make_step (Kd.int .i64) _ 3 (by rfl) (N := 23) rfl 31 _ _ rfl (l0.length : Int) rfl rfl Try.underlying31 (.int .i64 0) 8 info3 rfl (by decide) (by omega) 0 (ok := fun _ => True) (okp := fun _ => True) rfl (fun _ hk => hk) trivial (upA) (Nat.le_trans (Nat.mul_le_mul_right _ (upA : (l0.length : Int).toNat ≤ 35184372088832)) (by omega)) (Below.refl _ _) (Nat.le_refl _) ?_
           intro v163 w13 ho14 hb hg_ hnew_
           clear hg_ hnew_
           (first | rw [← Ny162.out] at ho14 | (simp only [Int.reduceToNat] at ho14; rw [← Ny162.out] at ho14))
           have n0_ := sA (Kd.R_elder' (upR HO158.out) (Kd.R_base ho14) hb)
           have n1_ := sA (Kd.S_elder' (upS HO161.out) (Kd.R_base ho14) hb)
           have n2_ := sA (Kd.R_elder' (upR HO167.out) (Kd.R_base ho14) hb)
           have n3_ := sA (Kd.R_lower (Kd.R_new' (Kd.R_new' ho14 (Kd.R_lt (upR HO158.out))) (Kd.R_lt (upR HO167.out))) (below_size (upC HB.out)))
           have n4_ := sA (below_step (upC HB.out) hb)
           clear HO158
           clear HO161
           clear HO167
           clear HB
           have HO158 := n0_
           have HO161 := n1_
           have HO167 := n2_
           have HO164 := n3_
           have HB := n4_
           clear n0_ n1_ n2_ n3_ n4_
           clear hb ho14
           obtain ⟨Ao15, co15, eo15⟩ := Kd.R_slice HO167.out
           (first | subst eo15 | (injection eo15 with f1_ f2_ f3_; have f4_ := f1_.symm; have f5_ := f3_.symm; clear f1_ f2_ f3_; subst f4_; subst f5_))
           obtain ⟨Ao16, co16, eo16⟩ := Kd.S_slice HO161.out
           (first | subst eo16 | (injection eo16 with f1_ f2_ f3_; have f4_ := f1_.symm; have f5_ := f3_.symm; clear f1_ f2_ f3_; subst f4_; subst f5_))
           obtain ⟨Ao17, co17, eo17⟩ := Kd.R_slice HO164.out
           (first | subst eo17 | (injection eo17 with f1_ f2_ f3_; have f4_ := f1_.symm; have f5_ := f3_.symm; clear f1_ f2_ f3_; subst f4_; subst f5_))
           refine hK.out _ _ trivial (fun hHeld => ?_)
           clear hK K
           refine norm_ (a' := ?_) ?_ ?_
           rotate_left
           ·
            show Act.put _ (some 23) _ = _
            simp only [Act.put, upL, i64_w, i32_w]
            rfl
           refine pure_ (i := 6) (N := some 26) (v := ?_) (a' := ?_) #[true, true, true, true, true, true, true, false, false] rfl rfl (any_of HT_.out (by kernel_rfl)) (fun _ _ _ h => h) (Or.inl ⟨by rfl, ?_⟩) ?_ ?_
           rotate_left
           ·
            intro w'
            go_simp
            with_reducible rfl
           rotate_left
           ·
            simp only [Act.put, upL, i64_w, i32_w]
            rfl
           exact norm_ upZ (hJ1_3_5 (.slice Ao16 t159.length co16, .slice Ao17 y162.length co17, .slice Ao15 y165.length co15) _ ⟨(by (with_reducible repeat (first | apply Kd.R_alloc | apply Kd.R_drewN | apply Kd.R_drew)); exact Kd.R_mono HO158.out (fun _ hk => ⟨hk.2, hk.1⟩)), (by (with_reducible repeat (first | apply Kd.S_alloc | apply Kd.S_drewN | apply Kd.S_drew)); exact Kd.S_mono HO161.out (fun _ hk => ⟨hk.1.1, ⟨hk.2, hk.1.2⟩⟩)), (by (with_reducible repeat (first | apply Kd.R_alloc | apply Kd.R_drewN | apply Kd.R_drew)); exact Kd.R_mono HO164.out (fun _ hk => ⟨hk.1.2, hk.2⟩)), (upR HO167.out), (upC HB.out)⟩)
          ·
           skip
           refine box_step ?hg (N := 8) ?hd (cs := #[.slice none 0 0, .slice none 0 0, .slice none 0 0]) (t := 75) ?hr ?_; (case hd => rfl); (case hg => rfl); (case hr => first | (go_simp; done) | (go_simp; rfl))
           intro gb168 hg w13 hbox hb
           have n0_ := sA (Kd.R_below (upR HO158.out) hb)
           have n1_ := sA (Kd.S_below (upS HO161.out) hb)
           have n2_ := sA (Kd.R_below (upR HO167.out) hb)
           have n3_ := sA (below_step (upC HB.out) hb)
           have n4_ := sA (hbox)
           have n5_ := sA ((by rw [hg]; exact (below_size (upC HB.out)) : w.heap.size ≤ gb168))
           have n6_ := sA ((by rw [hg]; exact (below_size (upC HB.out)) : w.heap.size ≤ gb168))
           clear HO158
           clear HO161
           clear HO167
           clear HB
           have HO158 := n0_
           have HO161 := n1_
           have HO167 := n2_
           have HB := n3_
           have BK168 := n4_
           have GW168 := n5_
           have GE168 := n6_
           clear n0_ n1_ n2_ n3_ n4_ n5_ n6_
           clear hb hbox hg
           refine hK.out _ _ trivial (fun hHeld => ?_)
           clear hK K
           refine norm_ (a' := ?_) ?_ ?_
           rotate_left
           ·
            show Act.put _ (some 8) _ = _
            simp only [Act.put, upL, i64_w, i32_w]
            rfl
           exact norm_ upZ (hJ1_5_7 (v160, v166, gb168) _ ⟨(upR HO158.out), (upS HO161.out), (upR HO167.out), (upK BK168.out), GW168.out, GE168.out, (upB HB.out GE168.out)⟩)
        ·
         skip
         rintro ⟨v160, v163⟩ w12 ⟨h0_, h1_, h2_, h3_⟩
         have n0_ := sA h0_
         have n1_ := sA h1_
         have n2_ := sA h2_
         have n3_ := sA h3_
         clear HO158
         clear HB
         clear h0_ h1_ h2_ h3_
         have HO158 := n0_
         have HO161 := n1_
         have HO164 := n2_
         have HB := n3_
         clear n0_ n1_ n2_ n3_
         have hHeld := trivial
         refine norm_ (a' := ?_) ?_ ?_
         rotate_left
         ·
          simp only [putAll, Act.put, upL]
          rfl
         refine two_ (i := 5) (j := 7) (Ni := some 25) (Nj := some 8) #[true, true, true, true, true, true, false, false, false] #[true, true, true, true, true, false, false, true, false] rfl rfl rfl rfl (two_of HT_.out (by kernel_rfl)) (by decide) (by decide) (fun K hK => ?_) (fun K hK => ?_)
         ·
          skip
          refine Kd.R_make_step (Kd.int .i64) _ 3 (by rfl) (N := 25) rfl 31 _ _ rfl (l0.length : Int) rfl rfl Try.underlying31 (.int .i64 0) 8 info3 rfl (by decide) (by omega) 0 (ok := fun _ => True) (okp := fun _ => True) rfl (fun _ hk => hk) trivial (upA) (Nat.le_trans (Nat.mul_le_mul_right _ (upA : (l0.length : Int).toNat ≤ 35184372088832)) (by omega)) (Below.refl _ _) (Nat.le_refl _) ?_
          intro v166 w13 ho14 hb hg_ hnew_
          clear hg_ hnew_
          (first | rw [← Ny165.out] at ho14 | (simp only [Int.reduceToNat] at ho14; rw [← Ny165.out] at ho14))
          have n0_ := sA (Kd.R_elder' (upR HO158.out) (Kd.R_base ho14) hb)
          have n1_ := sA (Kd.S_elder' (upS HO161.out) (Kd.R_base ho14) hb)
          have n2_ := sA (Kd.R_elder' (upR HO164.out) (Kd.R_base ho14) hb)
          have n3_ := sA (Kd.R_lower (Kd.R_new' (Kd.R_new' ho14 (Kd.R_lt (upR HO158.out))) (Kd.R_lt (upR HO164.out))) (below_size (upC HB.out)))
          have n4_ := sA (below_step (upC HB.out) hb)
          clear HO158
          clear HO161
          clear HO164
          clear HB
          have HO158 := n0_
          have HO161 := n1_
          have HO164 := n2_
          have HO167 := n3_
          have HB := n4_
          clear n0_ n1_ n2_ n3_ n4_
          clear hb ho14
          obtain ⟨Ao15, co15, eo15⟩ := Kd.R_slice HO167.out
          (first | subst eo15 | (injection eo15 with f1_ f2_ f3_; have f4_ := f1_.symm; have f5_ := f3_.symm; clear f1_ f2_ f3_; subst f4_; subst f5_))
          obtain ⟨Ao16, co16, eo16⟩ := Kd.S_slice HO161.out
          (first | subst eo16 | (injection eo16 with f1_ f2_ f3_; have f4_ := f1_.symm; have f5_ := f3_.symm; clear f1_ f2_ f3_; subst f4_; subst f5_))
          obtain ⟨Ao17, co17, eo17⟩ := Kd.R_slice HO164.out
          (first | subst eo17 | (injection eo17 with f1_ f2_ f3_; have f4_ := f1_.symm; have f5_ := f3_.symm; clear f1_ f2_ f3_; subst f4_; subst f5_))
          refine hK.out _ _ trivial (fun hHeld => ?_)
          clear hK K
          refine norm_ (a' := ?_) ?_ ?_
          rotate_left
          ·
           show Act.put _ (some 25) _ = _
           simp only [Act.put, upL, i64_w, i32_w]
           rfl
          refine pure_ (i := 6) (N := some 26) (v := ?_) (a' := ?_) #[true, true, true, true, true, true, true, false, false] rfl rfl (any_of HT_.out (by kernel_rfl)) (fun _ _ _ h => h) (Or.inl ⟨by rfl, ?_⟩) ?_ ?_
          rotate_left
          ·
           intro w'
           go_simp
           with_reducible rfl
          rotate_left
          ·
           simp only [Act.put, upL, i64_w, i32_w]
           rfl
          exact norm_ upZ (hJ1_3_5 (.slice Ao16 t159.length co16, .slice Ao17 y162.length co17, .slice Ao15 y165.length co15) _ ⟨(upR HO158.out), (by (with_reducible repeat (first | apply Kd.S_alloc | apply Kd.S_drewN | apply Kd.S_drew)); exact Kd.S_mono HO161.out (fun _ hk => ⟨hk.1.1, ⟨hk.1.2, hk.2⟩⟩)), (upR HO164.out), (by (with_reducible repeat (first | apply Kd.R_alloc | apply Kd.R_drewN | apply Kd.R_drew)); exact Kd.R_mono HO167.out (fun _ hk => ⟨hk.1.2, hk.2⟩)), (upC HB.out)⟩)
         ·
          skip
          refine box_step ?hg (N := 8) ?hd (cs := #[.slice none 0 0, .slice none 0 0, .slice none 0 0]) (t := 75) ?hr ?_; (case hd => rfl); (case hg => rfl); (case hr => first | (go_simp; done) | (go_simp; rfl))
          intro gb168 hg w13 hbox hb
          have n0_ := sA (Kd.R_below (upR HO158.out) hb)
          have n1_ := sA (Kd.S_below (upS HO161.out) hb)
          have n2_ := sA (Kd.R_below (upR HO164.out) hb)
          have n3_ := sA (below_step (upC HB.out) hb)
          have n4_ := sA (hbox)
          have n5_ := sA ((by rw [hg]; exact (below_size (upC HB.out)) : w.heap.size ≤ gb168))
          have n6_ := sA ((by rw [hg]; exact (below_size (upC HB.out)) : w.heap.size ≤ gb168))
          clear HO158
          clear HO161
          clear HO164
          clear HB
          have HO158 := n0_
          have HO161 := n1_
          have HO164 := n2_
          have HB := n3_
          have BK168 := n4_
          have GW168 := n5_
          have GE168 := n6_
          clear n0_ n1_ n2_ n3_ n4_ n5_ n6_
          clear hb hbox hg
          refine hK.out _ _ trivial (fun hHeld => ?_)
          clear hK K
          refine norm_ (a' := ?_) ?_ ?_
          rotate_left
          ·
           show Act.put _ (some 8) _ = _
           simp only [Act.put, upL, i64_w, i32_w]
           rfl
          exact norm_ upZ (hJ1_3_7 (v160, v163, gb168) _ ⟨(upR HO158.out), (upS HO161.out), (upR HO164.out), (upK BK168.out), GW168.out, GE168.out, (upB HB.out GE168.out)⟩)
       ·
        skip
        rintro ⟨v163, v166, gb168⟩ w14 ⟨h0_, h1_, h2_, h3_, h4_, h5_, h6_⟩
        have n0_ := sA h0_
        have n1_ := sA h1_
        have n2_ := sA h2_
        have n3_ := sA h3_
        have n4_ := sA h4_
        have n5_ := sA h5_
        have n6_ := sA h6_
        clear HO158
        clear HB
        clear h0_ h1_ h2_ h3_ h4_ h5_ h6_
        have HO158 := n0_
        have HO164 := n1_
        have HO167 := n2_
        have BK168 := n3_
        have GW168 := n4_
        have GE168 := n5_
        have HB := n6_
        clear n0_ n1_ n2_ n3_ n4_ n5_ n6_
        have hHeld := trivial
        refine norm_ (a' := ?_) ?_ ?_
        rotate_left
        ·
         simp only [putAll, Act.put, upL]
         rfl
        refine one_ (i := 1) (N := some 21) #[true, true, true, true, true, true, false, true, false] rfl rfl (one_of HT_.out (by kernel_rfl)) (by decide) (fun K hK => ?_)
        refine goes_ Try.func32 (by kernel_rfl) rfl #[.slice A0 l0.length c0] (by rfl) rfl rfl upM ?_
        with_reducible refine (kinkeepref35_Clone.calls k _ _ l0 t159 _ ?side1 ?side2 A4.out).mono ?_
        (case side1 => exact upX (Kd.C_below HR0.out HB.out))
        (case side2 => exact HC0.out)
        rintro e w15 ⟨v160, rfl, ho0, hb⟩
        refine ⟨_, rfl, ?_⟩
        have n0_ := sA (Kd.R_below (upR HO158.out) hb)
        have n1_ := sA (Kd.R_below (upR HO164.out) hb)
        have n2_ := sA (Kd.R_below (upR HO167.out) hb)
        have n3_ := sA (Kd.S_lower (Kd.S_new' (Kd.S_new' (Kd.S_new' ho0 (Kd.R_lt (upR HO158.out))) (Kd.R_lt (upR HO164.out))) (Kd.R_lt (upR HO167.out))) (below_size (upB HB.out GE168.out)))
        have n4_ := sA (blk_below (g := gb168) (upK BK168.out) hb)
        have n5_ := sA (below_step (upB HB.out GE168.out) hb)
        clear HO158
        clear HO164
        clear HO167
        clear BK168
        clear HB
        have HO158 := n0_
        have HO164 := n1_
        have HO167 := n2_
        have HO161 := n3_
        have BK168 := n4_
        have HB := n5_
        clear n0_ n1_ n2_ n3_ n4_ n5_
        (try clear hb)
        (try clear hb2)
        (try clear hk)
        (try clear hi)
        (try clear ho0)
        obtain ⟨Ao16, co16, eo16⟩ := Kd.R_slice HO167.out
        (first | subst eo16 | (injection eo16 with f1_ f2_ f3_; have f4_ := f1_.symm; have f5_ := f3_.symm; clear f1_ f2_ f3_; subst f4_; subst f5_))
        obtain ⟨Ao17, co17, eo17⟩ := Kd.S_slice HO161.out
        (first | subst eo17 | (injection eo17 with f1_ f2_ f3_; have f4_ := f1_.symm; have f5_ := f3_.symm; clear f1_ f2_ f3_; subst f4_; subst f5_))
        obtain ⟨Ao18, co18, eo18⟩ := Kd.R_slice HO164.out
        (first | subst eo18 | (injection eo18 with f1_ f2_ f3_; have f4_ := f1_.symm; have f5_ := f3_.symm; clear f1_ f2_ f3_; subst f4_; subst f5_))
        refine hK.out _ _ trivial (fun hHeld => ?_)
        clear hK K
        refine norm_ (a' := ?_) ?_ ?_
        rotate_left
        ·
         show Act.put _ (some 21) _ = _
         simp only [Act.put, upL, i64_w, i32_w]
         rfl
        refine pure_ (i := 6) (N := some 26) (v := ?_) (a' := ?_) #[true, true, true, true, true, true, true, true, false] rfl rfl (any_of HT_.out (by kernel_rfl)) (fun _ _ _ h => h) (Or.inl ⟨by rfl, ?_⟩) ?_ ?_
        rotate_left
        ·
         intro w'
         go_simp
         with_reducible rfl
        rotate_left
        ·
         simp only [Act.put, upL, i64_w, i32_w]
         rfl
        exact norm_ upZ (hJ1_3_5_7 (.slice Ao17 t159.length co17, .slice Ao18 y162.length co18, .slice Ao16 y165.length co16, gb168) _ ⟨(upR HO158.out), (by (with_reducible repeat (first | apply Kd.S_alloc | apply Kd.S_drewN | apply Kd.S_drew)); exact Kd.S_mono HO161.out (fun _ hk => ⟨hk.1.1.2, ⟨hk.1.2, hk.2⟩⟩)), (upR HO164.out), (upR HO167.out), (upK BK168.out), GW168.out, GE168.out, (upB HB.out GE168.out)⟩)
      ·
       skip
       rintro ⟨v160, v166, gb168⟩ w13 ⟨h0_, h1_, h2_, h3_, h4_, h5_, h6_⟩
       have n0_ := sA h0_
       have n1_ := sA h1_
       have n2_ := sA h2_
       have n3_ := sA h3_
       have n4_ := sA h4_
       have n5_ := sA h5_
       have n6_ := sA h6_
       clear HO158
       clear HB
       clear h0_ h1_ h2_ h3_ h4_ h5_ h6_
       have HO158 := n0_
       have HO161 := n1_
       have HO167 := n2_
       have BK168 := n3_
       have GW168 := n4_
       have GE168 := n5_
       have HB := n6_
       clear n0_ n1_ n2_ n3_ n4_ n5_ n6_
       have hHeld := trivial
       refine norm_ (a' := ?_) ?_ ?_
       rotate_left
       ·
        simp only [putAll, Act.put, upL]
        rfl
       refine one_ (i := 3) (N := some 23) #[true, true, true, true, true, true, false, true, false] rfl rfl (one_of HT_.out (by kernel_rfl)) (by decide) (fun K hK => ?_)
       refine Kd.R_make_step (Kd.int .i64) _ 3 (by rfl) (N := 23) rfl 31 _ _ rfl (l0.length : Int) rfl rfl Try.underlying31 (.int .i64 0) 8 info3 rfl (by decide) (by omega) 0 (ok := fun _ => True) (okp := fun _ => True) rfl (fun _ hk => hk) trivial (upA) (Nat.le_trans (Nat.mul_le_mul_right _ (upA : (l0.length : Int).toNat ≤ 35184372088832)) (by omega)) (Below.refl _ _) (Nat.le_refl _) ?_
       intro v163 w14 ho15 hb hg_ hnew_
       clear hg_ hnew_
       (first | rw [← Ny162.out] at ho15 | (simp only [Int.reduceToNat] at ho15; rw [← Ny162.out] at ho15))
       have n0_ := sA (Kd.R_elder' (upR HO158.out) (Kd.R_base ho15) hb)
       have n1_ := sA (Kd.S_elder' (upS HO161.out) (Kd.R_base ho15) hb)
       have n2_ := sA (Kd.R_elder' (upR HO167.out) (Kd.R_base ho15) hb)
       have n3_ := sA (Kd.R_lower (Kd.R_new' (Kd.R_new' ho15 (Kd.R_lt (upR HO158.out))) (Kd.R_lt (upR HO167.out))) (below_size (upB HB.out GE168.out)))
       have n4_ := sA (blk_below (g := gb168) (upK BK168.out) hb)
       have n5_ := sA (below_step (upB HB.out GE168.out) hb)
       clear HO158
       clear HO161
       clear HO167
       clear BK168
       clear HB
       have HO158 := n0_
       have HO161 := n1_
       have HO167 := n2_
       have HO164 := n3_
       have BK168 := n4_
       have HB := n5_
       clear n0_ n1_ n2_ n3_ n4_ n5_
       clear hb ho15
       obtain ⟨Ao16, co16, eo16⟩ := Kd.R_slice HO167.out
       (first | subst eo16 | (injection eo16 with f1_ f2_ f3_; have f4_ := f1_.symm; have f5_ := f3_.symm; clear f1_ f2_ f3_; subst f4_; subst f5_))
       obtain ⟨Ao17, co17, eo17⟩ := Kd.S_slice HO161.out
       (first | subst eo17 | (injection eo17 with f1_ f2_ f3_; have f4_ := f1_.symm; have f5_ := f3_.symm; clear f1_ f2_ f3_; subst f4_; subst f5_))
       obtain ⟨Ao18, co18, eo18⟩ := Kd.R_slice HO164.out
       (first | subst eo18 | (injection eo18 with f1_ f2_ f3_; have f4_ := f1_.symm; have f5_ := f3_.symm; clear f1_ f2_ f3_; subst f4_; subst f5_))
       refine hK.out _ _ trivial (fun hHeld => ?_)
       clear hK K
       refine norm_ (a' := ?_) ?_ ?_
       rotate_left
       ·
        show Act.put _ (some 23) _ = _
        simp only [Act.put, upL, i64_w, i32_w]
        rfl
       refine pure_ (i := 6) (N := some 26) (v := ?_) (a' := ?_) #[true, true, true, true, true, true, true, true, false] rfl rfl (any_of HT_.out (by kernel_rfl)) (fun _ _ _ h => h) (Or.inl ⟨by rfl, ?_⟩) ?_ ?_
       rotate_left
       ·
        intro w'
        go_simp
        with_reducible rfl
       rotate_left
       ·
        simp only [Act.put, upL, i64_w, i32_w]
        rfl
       exact norm_ upZ (hJ1_3_5_7 (.slice Ao17 t159.length co17, .slice Ao18 y162.length co18, .slice Ao16 y165.length co16, gb168) _ ⟨(by (with_reducible repeat (first | apply Kd.R_alloc | apply Kd.R_drewN | apply Kd.R_drew)); exact Kd.R_mono HO158.out (fun _ hk => ⟨hk.2, hk.1⟩)), (by (with_reducible repeat (first | apply Kd.S_alloc | apply Kd.S_drewN | apply Kd.S_drew)); exact Kd.S_mono HO161.out (fun _ hk => ⟨hk.1.1, ⟨hk.2, hk.1.2⟩⟩)), (by (with_reducible repeat (first | apply Kd.R_alloc | apply Kd.R_drewN | apply Kd.R_drew)); exact Kd.R_mono HO164.out (fun _ hk => ⟨hk.1.2, hk.2⟩)), (upR HO167.out), (upK BK168.out), GW168.out, GE168.out, (upB HB.out GE168.out)⟩)
     ·
      skip
      rintro ⟨v160, v163, gb168⟩ w13 ⟨h0_, h1_, h2_, h3_, h4_, h5_, h6_⟩
      have n0_ := sA h0_
      have n1_ := sA h1_
      have n2_ := sA h2_
      have n3_ := sA h3_
      have n4_ := sA h4_
      have n5_ := sA h5_
      have n6_ := sA h6_
      clear HO158
      clear HB
      clear h0_ h1_ h2_ h3_ h4_ h5_ h6_
      have HO158 := n0_
      have HO161 := n1_
      have HO164 := n2_
      have BK168 := n3_
      have GW168 := n4_
      have GE168 := n5_
      have HB := n6_
      clear n0_ n1_ n2_ n3_ n4_ n5_ n6_
      have hHeld := trivial
      refine norm_ (a' := ?_) ?_ ?_
      rotate_left
      ·
       simp only [putAll, Act.put, upL]
       rfl
      refine one_ (i := 5) (N := some 25) #[true, true, true, true, true, true, false, true, false] rfl rfl (one_of HT_.out (by kernel_rfl)) (by decide) (fun K hK => ?_)
      refine Kd.R_make_step (Kd.int .i64) _ 3 (by rfl) (N := 25) rfl 31 _ _ rfl (l0.length : Int) rfl rfl Try.underlying31 (.int .i64 0) 8 info3 rfl (by decide) (by omega) 0 (ok := fun _ => True) (okp := fun _ => True) rfl (fun _ hk => hk) trivial (upA) (Nat.le_trans (Nat.mul_le_mul_right _ (upA : (l0.length : Int).toNat ≤ 35184372088832)) (by omega)) (Below.refl _ _) (Nat.le_refl _) ?_
      intro v166 w14 ho15 hb hg_ hnew_
      clear hg_ hnew_
      (first | rw [← Ny165.out] at ho15 | (simp only [Int.reduceToNat] at ho15; rw [← Ny165.out] at ho15))
      have n0_ := sA (Kd.R_elder' (upR HO158.out) (Kd.R_base ho15) hb)
      have n1_ := sA (Kd.S_elder' (upS HO161.out) (Kd.R_base ho15) hb)
      have n2_ := sA (Kd.R_elder' (upR HO164.out) (Kd.R_base ho15) hb)
      have n3_ := sA (Kd.R_lower (Kd.R_new' (Kd.R_new' ho15 (Kd.R_lt (upR HO158.out))) (Kd.R_lt (upR HO164.out))) (below_size (upB HB.out GE168.out)))
      have n4_ := sA (blk_below (g := gb168) (upK BK168.out) hb)
      have n5_ := sA (below_step (upB HB.out GE168.out) hb)
      clear HO158
      clear HO161
      clear HO164
      clear BK168
      clear HB
      have HO158 := n0_
      have HO161 := n1_
      have HO164 := n2_
      have HO167 := n3_
      have BK168 := n4_
      have HB := n5_
      clear n0_ n1_ n2_ n3_ n4_ n5_
      clear hb ho15
      obtain ⟨Ao16, co16, eo16⟩ := Kd.R_slice HO167.out
      (first | subst eo16 | (injection eo16 with f1_ f2_ f3_; have f4_ := f1_.symm; have f5_ := f3_.symm; clear f1_ f2_ f3_; subst f4_; subst f5_))
      obtain ⟨Ao17, co17, eo17⟩ := Kd.S_slice HO161.out
      (first | subst eo17 | (injection eo17 with f1_ f2_ f3_; have f4_ := f1_.symm; have f5_ := f3_.symm; clear f1_ f2_ f3_; subst f4_; subst f5_))
      obtain ⟨Ao18, co18, eo18⟩ := Kd.R_slice HO164.out
      (first | subst eo18 | (injection eo18 with f1_ f2_ f3_; have f4_ := f1_.symm; have f5_ := f3_.symm; clear f1_ f2_ f3_; subst f4_; subst f5_))
      refine hK.out _ _ trivial (fun hHeld => ?_)
      clear hK K
      refine norm_ (a' := ?_) ?_ ?_
      rotate_left
      ·
       show Act.put _ (some 25) _ = _
       simp only [Act.put, upL, i64_w, i32_w]
       rfl
      refine pure_ (i := 6) (N := some 26) (v := ?_) (a' := ?_) #[true, true, true, true, true, true, true, true, false] rfl rfl (any_of HT_.out (by kernel_rfl)) (fun _ _ _ h => h) (Or.inl ⟨by rfl, ?_⟩) ?_ ?_
      rotate_left
      ·
       intro w'
       go_simp
       with_reducible rfl
      rotate_left
      ·
       simp only [Act.put, upL, i64_w, i32_w]
       rfl
      exact norm_ upZ (hJ1_3_5_7 (.slice Ao17 t159.length co17, .slice Ao18 y162.length co18, .slice Ao16 y165.length co16, gb168) _ ⟨(upR HO158.out), (by (with_reducible repeat (first | apply Kd.S_alloc | apply Kd.S_drewN | apply Kd.S_drew)); exact Kd.S_mono HO161.out (fun _ hk => ⟨hk.1.1, ⟨hk.1.2, hk.2⟩⟩)), (upR HO164.out), (by (with_reducible repeat (first | apply Kd.R_alloc | apply Kd.R_drewN | apply Kd.R_drew)); exact Kd.R_mono HO167.out (fun _ hk => ⟨hk.1.2, hk.2⟩)), (upK BK168.out), GW168.out, GE168.out, (upB HB.out GE168.out)⟩)
    ·
     skip
     rintro ⟨v160, v163, v166⟩ w17 ⟨h0_, h1_, h2_, h3_, h4_⟩
     have n0_ := sA h0_
     have n1_ := sA h1_
     have n2_ := sA h2_
     have n3_ := sA h3_
     have n4_ := sA h4_
     clear HO158
     clear HB
     clear h0_ h1_ h2_ h3_ h4_
     have HO158 := n0_
     have HO161 := n1_
     have HO164 := n2_
     have HO167 := n3_
     have HB := n4_
     clear n0_ n1_ n2_ n3_ n4_
     have hHeld := trivial
     obtain ⟨Ao18, co18, eo18⟩ := Kd.R_slice HO167.out
     (first | subst eo18 | (injection eo18 with f1_ f2_ f3_; have f4_ := f1_.symm; have f5_ := f3_.symm; clear f1_ f2_ f3_; subst f4_; subst f5_))
     obtain ⟨Ao19, co19, eo19⟩ := Kd.S_slice HO161.out
     (first | subst eo19 | (injection eo19 with f1_ f2_ f3_; have f4_ := f1_.symm; have f5_ := f3_.symm; clear f1_ f2_ f3_; subst f4_; subst f5_))
     obtain ⟨Ao20, co20, eo20⟩ := Kd.R_slice HO164.out
     (first | subst eo20 | (injection eo20 with f1_ f2_ f3_; have f4_ := f1_.symm; have f5_ := f3_.symm; clear f1_ f2_ f3_; subst f4_; subst f5_))
     refine norm_ (a' := ?_) ?_ ?_
     rotate_left
     ·
      simp only [putAll, Act.put, upL]
      rfl
     refine one_ (i := 7) (N := some 8) #[true, true, true, true, true, true, true, true, false] rfl rfl (one_of HT_.out (by kernel_rfl)) (by decide) (fun K hK => ?_)
     refine box_step ?hg (N := 8) ?hd (cs := #[.slice none 0 0, .slice none 0 0, .slice none 0 0]) (t := 75) ?hr ?_; (case hd => rfl); (case hg => rfl); (case hr => first | (go_simp; done) | (go_simp; rfl))
     intro gb168 hg w21 hbox hb
     have n0_ := sA (Kd.R_below (upR HO158.out) hb)
     have n1_ := sA (Kd.S_below (upS HO161.out) hb)
     have n2_ := sA (Kd.R_below (upR HO164.out) hb)
     have n3_ := sA (Kd.R_below (upR HO167.out) hb)
     have n4_ := sA (below_step (upC HB.out) hb)
     have n5_ := sA (hbox)
     have n6_ := sA ((by rw [hg]; exact (below_size (upC HB.out)) : w.heap.size ≤ gb168))
     have n7_ := sA ((by rw [hg]; exact (below_size (upC HB.out)) : w.heap.size ≤ gb168))
     clear HO158
     clear HO161
     clear HO164
     clear HO167
     clear HB
     have HO158 := n0_
     have HO161 := n1_
     have HO164 := n2_
     have HO167 := n3_
     have HB := n4_
     have BK168 := n5_
     have GW168 := n6_
     have GE168 := n7_
     clear n0_ n1_ n2_ n3_ n4_ n5_ n6_ n7_
     clear hb hbox hg
     refine hK.out _ _ trivial (fun hHeld => ?_)
     clear hK K
     refine norm_ (a' := ?_) ?_ ?_
     rotate_left
     ·
      show Act.put _ (some 8) _ = _
      simp only [Act.put, upL, i64_w, i32_w]
      rfl
     exact norm_ upZ (hJ1_3_5_7 (.slice Ao19 t159.length co19, .slice Ao20 y162.length co20, .slice Ao18 y165.length co18, gb168) _ ⟨(upR HO158.out), (upS HO161.out), (upR HO164.out), (upR HO167.out), (upK BK168.out), GW168.out, GE168.out, (upB HB.out GE168.out)⟩)
   rintro ⟨v160, v163, v166, gb168⟩ w18 ⟨h0_, h1_, h2_, h3_, h4_, h5_, h6_, h7_⟩
   have n0_ := sA h0_
   have n1_ := sA h1_
   have n2_ := sA h2_
   have n3_ := sA h3_
   have n4_ := sA h4_
   have n5_ := sA h5_
   have n6_ := sA h6_
   have n7_ := sA h7_
   clear HO158
   clear HB
   clear h0_ h1_ h2_ h3_ h4_ h5_ h6_ h7_
   have HO158 := n0_
   have HO161 := n1_
   have HO164 := n2_
   have HO167 := n3_
   have BK168 := n4_
   have GW168 := n5_
   have GE168 := n6_
   have HB := n7_
   clear n0_ n1_ n2_ n3_ n4_ n5_ n6_ n7_
   have hHeld := trivial
   obtain ⟨Ao19, co19, eo19⟩ := Kd.R_slice HO167.out
   (first | subst eo19 | (injection eo19 with f1_ f2_ f3_; have f4_ := f1_.symm; have f5_ := f3_.symm; clear f1_ f2_ f3_; subst f4_; subst f5_))
   obtain ⟨Ao20, co20, eo20⟩ := Kd.S_slice HO161.out
   (first | subst eo20 | (injection eo20 with f1_ f2_ f3_; have f4_ := f1_.symm; have f5_ := f3_.symm; clear f1_ f2_ f3_; subst f4_; subst f5_))
   obtain ⟨Ao21, co21, eo21⟩ := Kd.R_slice HO164.out
   (first | subst eo21 | (injection eo21 with f1_ f2_ f3_; have f4_ := f1_.symm; have f5_ := f3_.symm; clear f1_ f2_ f3_; subst f4_; subst f5_))
   refine norm_ (a' := ?_) ?_ ?_
   rotate_left
   ·
    simp only [putAll, Act.put, upL]
    rfl
   refine one_ (i := 8) (N := none) #[true, true, true, true, true, true, true, true, true] rfl rfl (one_of HT_.out (by kernel_rfl)) (by decide) (fun K hK => ?_)
   have hs22 : w18.cell? ⟨gb168, 0, none⟩ = some (.slice none 0 0) := (blk_cell BK168.out 0).trans rfl
   have hfs22 := blk_frozen BK168.out 0
   have hs23 : w18.cell? ⟨gb168, 1, none⟩ = some (.slice none 0 0) := (blk_cell BK168.out 1).trans rfl
   have hfs23 := blk_frozen BK168.out 1
   have hs24 : w18.cell? ⟨gb168, 2, none⟩ = some (.slice none 0 0) := (blk_cell BK168.out 2).trans rfl
   have hfs24 := blk_frozen BK168.out 2
   refine skip_ (w1 := ?_) (by rfl) rfl ?_ ?_
   rotate_left
   ·
    go_simp
    rfl
   refine hK.out _ _ trivial (fun hHeld => ?_)
   clear hK K
   refine done_ (done_of HT_.out (by kernel_rfl)) ?_
   try go_wp2
   go_loopg [9, 10] k (fun kq v9 v10 w' => ∃ (x7_1 : List Int) (x9_1 : Int) (x10_1 : Int) (xa0_1 : List Int) (xa2_1 : List Int) (ua0 : Value) (ua2 : Value), v9 = .int .i64 x9_1 ∧ v10 = .int .i64 x10_1 ∧ Aside0 (kinkeepref35_Settle.l0 kq l1 (l0.length : Int) x7_1 x9_1 x10_1 xa0_1 t159 xa2_1 = some (r1, r2)) ∧ Aside0 (kq ≤ k) ∧ Aside0 (Kd.R (Kd.int .i64) 3 w' w.heap.size (fun k_ => some k_ ≠ (ua0 : Value).ownBlock ∧ some k_ ≠ (ua2 : Value).ownBlock) v157 x7_1) ∧ Aside0 (Kd.R (Kd.int .i64) 3 w' w.heap.size (fun k_ => some k_ ≠ (v157 : Value).ownBlock ∧ some k_ ≠ (ua2 : Value).ownBlock) ua0 xa0_1) ∧ Aside0 (Kd.S (Kd.slice 3 (Kd.int .i64)) 31 w' w.heap.size (fun k_ => some k_ ≠ (v157 : Value).ownBlock ∧ some k_ ≠ (ua0 : Value).ownBlock ∧ some k_ ≠ (ua2 : Value).ownBlock) (.slice Ao20 t159.length co20) t159) ∧ Aside0 (Kd.R (Kd.int .i64) 3 w' w.heap.size (fun k_ => some k_ ≠ (v157 : Value).ownBlock ∧ some k_ ≠ (ua0 : Value).ownBlock) ua2 xa2_1) ∧ Aside0 (w'.heap[gb168]? = some (.cells #[ua0, (.slice Ao20 t159.length co20), ua2] 75 (0, 0))) ∧ Aside0 (Below w.heap.size w w'))
   case atStart => exact ⟨(t156), (0), (0), (y162), (y165), (.slice Ao21 y162.length co21), (.slice Ao19 y165.length co19), (upE), (upE), H', ⟨Nat.le_refl _⟩, ⟨by (with_reducible repeat (first | apply Kd.R_alloc | apply Kd.R_drewN | apply Kd.R_drew)); exact Kd.R_mono (Kd.R_far (p := ⟨gb168, 2, none⟩) (Kd.R_far (p := ⟨gb168, 1, none⟩) (Kd.R_far (p := ⟨gb168, 0, none⟩) (Kd.R_types HO158.out BK168.out (by decide)) (fun _ hk => hk.2) (.slice Ao21 y162.length co21)) (fun _ hk => hk.2) (.slice Ao20 t159.length co20)) (fun _ hk => hk.2) (.slice Ao19 y165.length co19)) (fun _ hk => ⟨hk.1.1, hk.1.2⟩)⟩, ⟨by (with_reducible repeat (first | apply Kd.R_alloc | apply Kd.R_drewN | apply Kd.R_drew)); exact Kd.R_mono (Kd.R_far (p := ⟨gb168, 2, none⟩) (Kd.R_far (p := ⟨gb168, 1, none⟩) (Kd.R_far (p := ⟨gb168, 0, none⟩) (Kd.R_types HO164.out BK168.out (by decide)) (fun _ hk => hk.2) (.slice Ao21 y162.length co21)) (fun _ hk => hk.2) (.slice Ao20 t159.length co20)) (fun _ hk => hk.2) (.slice Ao19 y165.length co19)) (fun _ hk => ⟨hk.1.1, hk.1.2⟩)⟩, ⟨by (with_reducible repeat (first | apply Kd.S_alloc | apply Kd.S_drewN | apply Kd.S_drew)); exact Kd.S_mono (Kd.S_far (p := ⟨gb168, 2, none⟩) (Kd.S_far (p := ⟨gb168, 1, none⟩) (Kd.S_far (p := ⟨gb168, 0, none⟩) (Kd.S_types HO161.out BK168.out (by decide)) (fun _ hk => hk.2) (.slice Ao21 y162.length co21)) (fun _ hk => hk.2) (.slice Ao20 t159.length co20)) (fun _ hk => hk.2) (.slice Ao19 y165.length co19)) (fun _ hk => ⟨hk.1.1, ⟨hk.1.2.1, hk.1.2.2⟩⟩)⟩, ⟨by (with_reducible repeat (first | apply Kd.R_alloc | apply Kd.R_drewN | apply Kd.R_drew)); exact Kd.R_mono (Kd.R_far (p := ⟨gb168, 2, none⟩) (Kd.R_far (p := ⟨gb168, 1, none⟩) (Kd.R_far (p := ⟨gb168, 0, none⟩) (Kd.R_types HO167.out BK168.out (by decide)) (fun _ hk => hk.2) (.slice Ao21 y162.length co21)) (fun _ hk => hk.2) (.slice Ao20 t159.length co20)) (fun _ hk => hk.2) (.slice Ao19 y165.length co19)) (fun _ hk => ⟨hk.1.1, hk.1.2⟩)⟩, ⟨by (with_reducible repeat (first | refine blk_drewN ?_ _ | refine blk_drew ?_ | refine blk_alloc ?_ _)); refine blk_put (cs := #[.slice Ao21 y162.length co21, .slice Ao20 t159.length co20, .slice none 0 0]) ?_ 2 _ rfl; (with_reducible repeat (first | refine blk_drewN ?_ _ | refine blk_drew ?_ | refine blk_alloc ?_ _)); refine blk_put (cs := #[.slice Ao21 y162.length co21, .slice none 0 0, .slice none 0 0]) ?_ 1 _ rfl; (with_reducible repeat (first | refine blk_drewN ?_ _ | refine blk_drew ?_ | refine blk_alloc ?_ _)); refine blk_put (cs := #[.slice none 0 0, .slice none 0 0, .slice none 0 0]) ?_ 0 _ rfl; (with_reducible repeat (first | refine blk_drewN ?_ _ | refine blk_drew ?_ | refine blk_alloc ?_ _)); exact BK168.out⟩, ⟨upB HB.out GE168.out⟩⟩
   case round =>
    clear H'
    try clear p2
    try clear c3
    obtain ⟨x7_1, x9_1, x10_1, xa0_1, xa2_1, ua0, ua2, rfl, rfl, HA, HK1, HO_7, HO_a0, HO_a1, HO_a2, BK168, HB⟩ := hrel
    cases gk with
    | zero => exact absurd HA.out (by simp [kinkeepref35_Settle.l0])
    | succ k1 =>
     have H := HA.out
     clear HA
     simp only [kinkeepref35_Settle.l0] at H
     by_cases c25 : x10_1 < (l0.length : Int)
     ·
      rw [if_pos c25] at H
      have c25b0 : decide (x10_1 < (l0.length : Int)) = true := decide_eq_true c25
      clear c25
      by_cases c26 : 0 ≤ x10_1
      ·
       rw [if_pos c26] at H
       have c26b0 : decide (0 ≤ x10_1) = true := decide_eq_true c26
       clear c26
       by_cases c27 : x10_1 < (x7_1.length : Int)
       ·
        rw [if_pos c27] at H
        have c27b0 : decide (x10_1 < (x7_1.length : Int)) = true := decide_eq_true c27
        clear c27
        by_cases c28 : x10_1 < (l1.length : Int)
        ·
         rw [if_pos c28] at H
         have c28b0 : decide (x10_1 < (l1.length : Int)) = true := decide_eq_true c28
         clear c28
         obtain ⟨ji29, hji29⟩ : ∃ j_ : Int, (mx 0 (wrap64 ((rd x7_1 x10_1) - (rd l1 x10_1)))) = j_ := ⟨_, rfl⟩
         replace H : (if x10_1 < (xa0_1.length : Int) then (if x10_1 < (xa2_1.length : Int) then (kinkeepref35_Settle.l0 k1 l1 (l0.length : Int) x7_1 (wrap64 (x9_1 + (ji29))) (wrap64 (x10_1 + 1)) (xa0_1.set (x10_1 : Int).toNat (ji29)) t159 (xa2_1.set (x10_1 : Int).toNat (mx 0 (wrap64 ((rd l1 x10_1) - (rd x7_1 x10_1)))))) else (none)) else (none)) = some (r1, r2) := by first | (rw [hji29] at H; exact H) | (simp only [hji29] at H ⊢; exact H)
         have hji29_ : (if 0 < (wrap64 ((rd x7_1 x10_1) - (rd l1 x10_1))) then (wrap64 ((rd x7_1 x10_1) - (rd l1 x10_1))) else 0) = ji29 := hji29
         obtain ⟨ji30, hji30⟩ : ∃ j_ : Int, (mx 0 (wrap64 ((rd l1 x10_1) - (rd x7_1 x10_1)))) = j_ := ⟨_, rfl⟩
         replace H : (if x10_1 < (xa0_1.length : Int) then (if x10_1 < (xa2_1.length : Int) then (kinkeepref35_Settle.l0 k1 l1 (l0.length : Int) x7_1 (wrap64 (x9_1 + (ji29))) (wrap64 (x10_1 + 1)) (xa0_1.set (x10_1 : Int).toNat (ji29)) t159 (xa2_1.set (x10_1 : Int).toNat (ji30))) else (none)) else (none)) = some (r1, r2) := by first | (rw [hji30] at H; exact H) | (simp only [hji30] at H ⊢; exact H)
         have hji30_ : (if 0 < (wrap64 ((rd l1 x10_1) - (rd x7_1 x10_1))) then (wrap64 ((rd l1 x10_1) - (rd x7_1 x10_1))) else 0) = ji30 := hji30
         by_cases c31 : x10_1 < (xa0_1.length : Int)
         ·
          rw [if_pos c31] at H
          have c31b0 : decide (x10_1 < (xa0_1.length : Int)) = true := decide_eq_true c31
          clear c31
          obtain ⟨y173, hy173⟩ : ∃ y_ : List Int, y_ = (xa0_1.set (x10_1 : Int).toNat (ji29)) := ⟨_, rfl⟩
          replace H : (if x10_1 < (xa2_1.length : Int) then (kinkeepref35_Settle.l0 k1 l1 (l0.length : Int) x7_1 (wrap64 (x9_1 + (ji29))) (wrap64 (x10_1 + 1)) y173 t159 (xa2_1.set (x10_1 : Int).toNat (ji30))) else (none)) = some (r1, r2) := by first | (rw [hy173]; with_reducible exact H) | (have H2_ := (Option.bind_some _ _).symm.trans H; rw [hy173]; with_reducible exact H2_) | (have H2_ := (Option.bind_some _ _).symm.trans H; with_reducible exact H2_) | with_reducible exact H | (rw [hy173]; exact H) | exact H
          have Ny173 := sA hy173
          clear hy173
          by_cases c33 : x10_1 < (xa2_1.length : Int)
          ·
           rw [if_pos c33] at H
           have c33b0 : decide (x10_1 < (xa2_1.length : Int)) = true := decide_eq_true c33
           clear c33
           obtain ⟨y174, hy174⟩ : ∃ y_ : List Int, y_ = (xa2_1.set (x10_1 : Int).toNat (ji30)) := ⟨_, rfl⟩
           replace H : (kinkeepref35_Settle.l0 k1 l1 (l0.length : Int) x7_1 (wrap64 (x9_1 + (ji29))) (wrap64 (x10_1 + 1)) y173 t159 y174) = some (r1, r2) := by first | (rw [hy174]; with_reducible exact H) | (have H2_ := (Option.bind_some _ _).symm.trans H; rw [hy174]; with_reducible exact H2_) | (have H2_ := (Option.bind_some _ _).symm.trans H; with_reducible exact H2_) | with_reducible exact H | (rw [hy174]; exact H) | exact H
           have Ny174 := sA hy174
           clear hy174
           have H' := sA H
           clear H
           try go_wp2
           have n0_ := sA (Kd.R_drew HO_7.out)
           have n1_ := sA (Kd.R_drew HO_a0.out)
           have n2_ := sA (Kd.S_drew HO_a1.out)
           have n3_ := sA (Kd.R_drew HO_a2.out)
           have n4_ := sA (blk_drew BK168.out)
           have n5_ := sA (below_drew1 HB.out)
           clear HO_7
           clear HO_a0
           clear HO_a1
           clear HO_a2
           clear BK168
           clear HB
           have HO_7 := n0_
           have HO_a0 := n1_
           have HO_a1 := n2_
           have HO_a2 := n3_
           have BK168 := n4_
           have HB := n5_
           clear n0_ n1_ n2_ n3_ n4_ n5_
           obtain ⟨Ao37, co37, eo37⟩ := Kd.R_slice HO_7.out
           (first | subst eo37 | (injection eo37 with f1_ f2_ f3_; have f4_ := f1_.symm; have f5_ := f3_.symm; clear f1_ f2_ f3_; subst f4_; subst f5_))
           have p169 : 0 ≤ (x10_1 : Int) := upA
           have q169 : x10_1 < (x7_1.length : Int) := upA
           obtain ⟨ad169, e169, hx169_0⟩ := Kd.at_int (Kd.R_reads' HO_7.out).2.2 x10_1 p169 q169
           cases e169
           replace p169 := eq_true p169
           replace q169 := eq_true q169
           have p170 : 0 ≤ (x10_1 : Int) := upA
           have q170 : x10_1 < (l1.length : Int) := upA
           obtain ⟨ad170, e170, hx170_0⟩ := Kd.at_int HR1.out x10_1 p170 q170
           have hw170_0 := hx170_0
           cases e170
           replace hx170_0 := (HB.out.cell (World.block_lt_of_cell? w _ hx170_0)).trans hx170_0
           replace p170 := eq_true p170
           replace q170 := eq_true q170
           have p171 : 0 ≤ (x10_1 : Int) := upA
           have q171 : x10_1 < (l1.length : Int) := upA
           obtain ⟨ad171, e171, hx171_0⟩ := Kd.at_int HR1.out x10_1 p171 q171
           have hw171_0 := hx171_0
           obtain rfl : ad170 = ad171 := (by injection e171)
           replace hx171_0 := (HB.out.cell (World.block_lt_of_cell? w _ hx171_0)).trans hx171_0
           replace p171 := eq_true p171
           replace q171 := eq_true q171
           have p172 : 0 ≤ (x10_1 : Int) := upA
           have q172 : x10_1 < (x7_1.length : Int) := upA
           obtain ⟨ad172, e172, hx172_0⟩ := Kd.at_int (Kd.R_reads' HO_7.out).2.2 x10_1 p172 q172
           obtain rfl : ad169 = ad172 := (by injection e172)
           replace p172 := eq_true p172
           replace q172 := eq_true q172
           have p32 : 0 ≤ (x10_1 : Int) := upA
           have q32 : (x10_1 : Int) < ((xa0_1.length : Int) : Int) := upA
           obtain ⟨go32, co32, eo32, gb32, gl32, cl32, HG32⟩ := Kd.R_form HO_a0.out (by omega)
           (first | cases eo32 | (injection eo32 with ea_ en_ ec_; (first | subst ea_ | (injection ea_ with ea_; subst ea_)); subst ec_; clear en_))
           have GB32 := sA gb32
           have GG32 := sA HG32
           clear gb32 gl32 HG32
           obtain ⟨hx32_0, hf32_0⟩ := Kd.R_celln 0 HO_a0.out (x10_1 : Int) p32 q32
           replace p32 := eq_true p32
           replace q32 := eq_true q32
           have HP38 := Kd.R_putn HO_a0.out (x10_1 : Int) ji29
           rw [← Ny173.out] at HP38
           have HQ38 := sA HP38
           clear HP38
           have p34 : 0 ≤ (x10_1 : Int) := upA
           have q34 : (x10_1 : Int) < ((xa2_1.length : Int) : Int) := upA
           obtain ⟨go34, co34, eo34, gb34, gl34, cl34, HG34⟩ := Kd.R_form HO_a2.out (by omega)
           (first | cases eo34 | (injection eo34 with ea_ en_ ec_; (first | subst ea_ | (injection ea_ with ea_; subst ea_)); subst ec_; clear en_))
           have GB34 := sA gb34
           have GG34 := sA HG34
           clear gb34 gl34 HG34
           obtain ⟨hx34_0, hf34_0⟩ := Kd.R_celln 0 (Kd.R_far (p := ⟨go32, (x10_1 : Int).toNat, none⟩) (Kd.R_mono HO_a2.out (fun k_ hk => (⟨hk, fun e_ => hk.2 (by rw [e_]; rfl)⟩ : _ ∧ k_ ≠ go32))) (fun _ hk => hk.2) (.int .i64 ji29)) (x10_1 : Int) p34 q34
           replace p34 := eq_true p34
           replace q34 := eq_true q34
           have HP39 := Kd.R_putn (Kd.R_far (p := ⟨go32, (x10_1 : Int).toNat, none⟩) (Kd.R_mono HO_a2.out (fun k_ hk => (⟨hk, fun e_ => hk.2 (by rw [e_]; rfl)⟩ : _ ∧ k_ ≠ go32))) (fun _ hk => hk.2) (.int .i64 ji29)) (x10_1 : Int) ji30
           rw [← Ny174.out] at HP39
           have HQ39 := sA HP39
           clear HP39
           refine start_ (n := 30) (S := fun w' => w'.cell? ⟨gb168, 0, none⟩ = some (.slice (some ⟨go32, 0, none⟩) xa0_1.length co32) ∧ w'.cell? ⟨gb168, 1, none⟩ = some (.slice Ao20 t159.length co20) ∧ w'.cell? ⟨gb168, 2, none⟩ = some (.slice (some ⟨go34, 0, none⟩) xa2_1.length co34) ∧ w'.cell? (ad169.add (x10_1).toNat) = some (.int .i64 (rd x7_1 x10_1)) ∧ w'.cell? (ad170.add (x10_1).toNat) = some (.int .i64 (rd l1 x10_1)) ∧ w'.cell? (ad170.add (x10_1).toNat) = some (.int .i64 (rd l1 x10_1)) ∧ w'.cell? (ad169.add (x10_1).toNat) = some (.int .i64 (rd x7_1 x10_1))) (ds := [29]) #[false, false, false, false, false, false, false, false, false, false, false, false, false, false, false, false, false, false, false, false, false, false, false, false, false, false, false, false, false, false] (by kernel_rfl) rfl rfl ⟨(blk_cell BK168.out 0).trans rfl, (blk_cell BK168.out 1).trans rfl, (blk_cell BK168.out 2).trans rfl, hx169_0, ((HB.out.cell (World.block_lt_of_cell? w _ hw170_0)).trans hw170_0), ((HB.out.cell (World.block_lt_of_cell? w _ hw171_0)).trans hw171_0), hx172_0⟩ (fun hHeld => ?_); refine with_tabW kinkeepref35_Settle.tab8 kinkeepref35_Settle.bits8 (fun HT_ HW_ => ?_)
           generalize wr.drew = w36 at HO_7 HO_a0 HO_a1 HO_a2 BK168 HB GG32 GG34 HQ38 HQ39 hf32_0 hf34_0 hx169_0 hx170_0 hx171_0 hx172_0 hx32_0 hx34_0 hHeld ⊢
           refine pure_ (i := 0) (N := some 32) (v := ?_) (a' := ?_) #[true, false, false, false, false, false, false, false, false, false, false, false, false, false, false, false, false, false, false, false, false, false, false, false, false, false, false, false, false, false] rfl rfl (any_of HT_.out (by kernel_rfl)) (fun _ _ _ h => h) (Or.inl ⟨by rfl, ?_⟩) ?_ ?_
           rotate_left
           ·
            intro w'
            go_simp
            with_reducible rfl
           rotate_left
           ·
            simp only [Act.put, upL, i64_w, i32_w]
            rfl
           refine pure_ (i := 2) (N := some 34) (v := ?_) (a' := ?_) #[true, false, true, false, false, false, false, false, false, false, false, false, false, false, false, false, false, false, false, false, false, false, false, false, false, false, false, false, false, false] rfl rfl (any_of HT_.out (by kernel_rfl)) (fun _ _ _ h => h) (Or.inl ⟨by rfl, ?_⟩) ?_ ?_
           rotate_left
           ·
            intro w'
            go_simp
            with_reducible rfl
           rotate_left
           ·
            simp only [Act.put, upL, i64_w, i32_w]
            rfl
           refine pure_ (i := 3) (N := some 35) (v := ?_) (a' := ?_) #[true, false, true, true, false, false, false, false, false, false, false, false, false, false, false, false, false, false, false, false, false, false, false, false, false, false, false, false, false, false] rfl rfl (any_of HT_.out (by kernel_rfl)) (fun _ _ _ h => h) (Or.inl ⟨by rfl, ?_⟩) ?_ ?_
           rotate_left
           ·
            intro w'
            go_simp
            with_reducible rfl
           rotate_left
           ·
            simp only [Act.put, upL, i64_w, i32_w]
            rfl
           refine pure_ (i := 5) (N := some 37) (v := ?_) (a' := ?_) #[true, false, true, true, false, true, false, false, false, false, false, false, false, false, false, false, false, false, false, false, false, false, false, false, false, false, false, false, false, false] rfl rfl (any_of HT_.out (by kernel_rfl)) (fun _ _ _ h => h) (Or.inl ⟨by rfl, ?_⟩) ?_ ?_
           rotate_left
           ·
            intro w'
            go_simp
            with_reducible rfl
           rotate_left
           ·
            simp only [Act.put, upL, i64_w, i32_w]
            rfl
           refine pure_ (i := 6) (N := some 38) (v := ?_) (a' := ?_) #[true, false, true, true, false, true, true, false, false, false, false, false, false, false, false, false, false, false, false, false, false, false, false, false, false, false, false, false, false, false] rfl rfl (any_of HT_.out (by kernel_rfl)) (fun _ _ _ h => h) (Or.inl ⟨by rfl, ?_⟩) ?_ ?_
           rotate_left
           ·
            intro w'
            go_simp
            with_reducible rfl
           rotate_left
           ·
            simp only [Act.put, upL, i64_w, i32_w]
            rfl
           refine pure_ (i := 7) (N := some 39) (v := ?_) (a' := ?_) #[true, false, true, true, false, true, true, true, false, false, false, false, false, false, false, false, false, false, false, false, false, false, false, false, false, false, false, false, false, false] rfl rfl (any_of HT_.out (by kernel_rfl)) (fun _ _ _ h => h) (Or.inl ⟨by rfl, ?_⟩) ?_ ?_
           rotate_left
           ·
            intro w'
            go_simp
            with_reducible rfl
           rotate_left
           ·
            simp only [Act.put, upL, i64_w, i32_w]
            rfl
           refine pure_ (i := 8) (N := some 40) (v := ?_) (a' := ?_) #[true, false, true, true, false, true, true, true, true, false, false, false, false, false, false, false, false, false, false, false, false, false, false, false, false, false, false, false, false, false] rfl rfl (any_of HT_.out (by kernel_rfl)) (fun _ _ _ h => h) (Or.inl ⟨by rfl, ?_⟩) ?_ ?_
           rotate_left
           ·
            intro w'
            go_simp
            with_reducible rfl
           rotate_left
           ·
            simp only [Act.put, upL, i64_w, i32_w]
            rfl
           refine pure_ (i := 10) (N := some 42) (v := ?_) (a' := ?_) #[true, false, true, true, false, true, true, true, true, false, true, false, false, false, false, false, false, false, false, false, false, false, false, false, false, false, false, false, false, false] rfl rfl (any_of HT_.out (by kernel_rfl)) (fun _ _ _ h => h) (Or.inl ⟨by rfl, ?_⟩) ?_ ?_
           rotate_left
           ·
            intro w'
            go_simp
            with_reducible rfl
           rotate_left
           ·
            simp only [Act.put, upL, i64_w, i32_w]
            rfl
           refine pure_ (i := 11) (N := some 43) (v := ?_) (a' := ?_) #[true, false, true, true, false, true, true, true, true, false, true, true, false, false, false, false, false, false, false, false, false, false, false, false, false, false, false, false, false, false] rfl rfl (any_of HT_.out (by kernel_rfl)) (fun _ _ _ h => h) (Or.inl ⟨by rfl, ?_⟩) ?_ ?_
           rotate_left
           ·
            intro w'
            go_simp
            with_reducible rfl
           rotate_left
           ·
            simp only [Act.put, upL, i64_w, i32_w]
            rfl
           refine pure_ (i := 12) (N := some 44) (v := ?_) (a' := ?_) #[true, false, true, true, false, true, true, true, true, false, true, true, true, false, false, false, false, false, false, false, false, false, false, false, false, false, false, false, false, false] rfl rfl (any_of HT_.out (by kernel_rfl)) (fun _ _ _ h => h) (Or.inl ⟨by rfl, ?_⟩) ?_ ?_
           rotate_left
           ·
            intro w'
            go_simp
            with_reducible rfl
           rotate_left
           ·
            simp only [Act.put, upL, i64_w, i32_w]
            rfl
           refine pure_ (i := 16) (N := some 48) (v := ?_) (a' := ?_) #[true, false, true, true, false, true, true, true, true, false, true, true, true, false, false, false, true, false, false, false, false, false, false, false, false, false, false, false, false, false] rfl rfl (any_of HT_.out (by kernel_rfl)) (fun _ _ _ h => h) (Or.inl ⟨by rfl, ?_⟩) ?_ ?_
           rotate_left
           ·
            intro w'
            go_simp
            with_reducible rfl
           rotate_left
           ·
            simp only [Act.put, upL, i64_w, i32_w]
            rfl
           refine pure_ (i := 17) (N := some 49) (v := ?_) (a' := ?_) #[true, false, true, true, false, true, true, true, true, false, true, true, true, false, false, false, true, true, false, false, false, false, false, false, false, false, false, false, false, false] rfl rfl (any_of HT_.out (by kernel_rfl)) (fun _ _ _ h => h) (Or.inl ⟨by rfl, ?_⟩) ?_ ?_
           rotate_left
           ·
            intro w'
            go_simp
            with_reducible rfl
           rotate_left
           ·
            simp only [Act.put, upL, i64_w, i32_w]
            rfl
           refine pure_ (i := 18) (N := some 50) (v := ?_) (a' := ?_) #[true, false, true, true, false, true, true, true, true, false, true, true, true, false, false, false, true, true, true, false, false, false, false, false, false, false, false, false, false, false] rfl rfl (any_of HT_.out (by kernel_rfl)) (fun _ _ _ h => h) (Or.inl ⟨by rfl, ?_⟩) ?_ ?_
           rotate_left
           ·
            intro w'
            go_simp
            with_reducible rfl
           rotate_left
           ·
            simp only [Act.put, upL, i64_w, i32_w]
            rfl
           refine pure_ (i := 20) (N := some 52) (v := ?_) (a' := ?_) #[true, false, true, true, false, true, true, true, true, false, true, true, true, false, false, false, true, true, true, false, true, false, false, false, false, false, false, false, false, false] rfl rfl (any_of HT_.out (by kernel_rfl)) (fun _ _ _ h => h) (Or.inl ⟨by rfl, ?_⟩) ?_ ?_
           rotate_left
           ·
            intro w'
            go_simp
            with_reducible rfl
           rotate_left
           ·
            simp only [Act.put, upL, i64_w, i32_w]
            rfl
           refine pure_ (i := 21) (N := some 53) (v := ?_) (a' := ?_) #[true, false, true, true, false, true, true, true, true, false, true, true, true, false, false, false, true, true, true, false, true, true, false, false, false, false, false, false, false, false] rfl rfl (any_of HT_.out (by kernel_rfl)) (fun _ _ _ h => h) (Or.inl ⟨by rfl, ?_⟩) ?_ ?_
           rotate_left
           ·
            intro w'
            go_simp
            with_reducible rfl
           rotate_left
           ·
            simp only [Act.put, upL, i64_w, i32_w]
            rfl
           refine pure_ (i := 22) (N := some 54) (v := ?_) (a' := ?_) #[true, false, true, true, false, true, true, true, true, false, true, true, true, false, false, false, true, true, true, false, true, true, true, false, false, false, false, false, false, false] rfl rfl (any_of HT_.out (by kernel_rfl)) (fun _ _ _ h => h) (Or.inl ⟨by rfl, ?_⟩) ?_ ?_
           rotate_left
           ·
            intro w'
            go_simp
            with_reducible rfl
           rotate_left
           ·
            simp only [Act.put, upL, i64_w, i32_w]
            rfl
           refine take_ (i := 1) (N := some 33) (v := ?_) (a' := ?_) #[true, true, true, true, false, true, true, true, true, false, true, true, true, false, false, false, true, true, true, false, true, true, true, false, false, false, false, false, false, false] rfl rfl (take_ofW HT_.out HW_.out (by kernel_rfl)) (fun _ _ _ h => h) (Or.inl ⟨by rfl, ?_⟩) hHeld ?_ ?_
           rotate_left
           ·
            rintro w' ⟨s0, s1, s2, s3, s4, s5, s6⟩
            go_simp
            with_reducible rfl
           rotate_left
           ·
            simp only [Act.put, upL, i64_w, i32_w]
            rfl
           refine take_ (i := 4) (N := some 36) (v := ?_) (a' := ?_) #[true, true, true, true, true, true, true, true, true, false, true, true, true, false, false, false, true, true, true, false, true, true, true, false, false, false, false, false, false, false] rfl rfl (take_ofW HT_.out HW_.out (by kernel_rfl)) (fun _ _ _ h => h) (Or.inl ⟨by rfl, ?_⟩) hHeld ?_ ?_
           rotate_left
           ·
            rintro w' ⟨s0, s1, s2, s3, s4, s5, s6⟩
            go_simp
            with_reducible rfl
           rotate_left
           ·
            simp only [Act.put, upL, i64_w, i32_w]
            rfl
           refine take_ (i := 9) (N := some 41) (v := ?_) (a' := ?_) #[true, true, true, true, true, true, true, true, true, true, true, true, true, false, false, false, true, true, true, false, true, true, true, false, false, false, false, false, false, false] rfl rfl (take_ofW HT_.out HW_.out (by kernel_rfl)) (fun _ _ _ h => h) (Or.inl ⟨by rfl, ?_⟩) hHeld ?_ ?_
           rotate_left
           ·
            rintro w' ⟨s0, s1, s2, s3, s4, s5, s6⟩
            go_simp
            with_reducible rfl
           rotate_left
           ·
            simp only [Act.put, upL, i64_w, i32_w]
            rfl
           refine take_ (i := 13) (N := some 45) (v := ?_) (a' := ?_) #[true, true, true, true, true, true, true, true, true, true, true, true, true, true, false, false, true, true, true, false, true, true, true, false, false, false, false, false, false, false] rfl rfl (take_ofW HT_.out HW_.out (by kernel_rfl)) (fun _ _ _ h => h) (Or.inl ⟨by rfl, ?_⟩) hHeld ?_ ?_
           rotate_left
           ·
            rintro w' ⟨s0, s1, s2, s3, s4, s5, s6⟩
            go_simp
            with_reducible rfl
           rotate_left
           ·
            simp only [Act.put, upL, i64_w, i32_w]
            rfl
           refine pure_ (i := 14) (N := some 46) (v := ?_) (a' := ?_) #[true, true, true, true, true, true, true, true, true, true, true, true, true, true, true, false, true, true, true, false, true, true, true, false, false, false, false, false, false, false] rfl rfl (any_of HT_.out (by kernel_rfl)) (fun _ _ _ h => h) (Or.inl ⟨by rfl, ?_⟩) ?_ ?_
           rotate_left
           ·
            intro w'
            go_simp
            with_reducible rfl
           rotate_left
           ·
            simp only [Act.put, upL, i64_w, i32_w]
            rfl
           refine pure_ (i := 15) (N := some 47) (v := ?_) (a' := ?_) #[true, true, true, true, true, true, true, true, true, true, true, true, true, true, true, true, true, true, true, false, true, true, true, false, false, false, false, false, false, false] rfl rfl (any_of HT_.out (by kernel_rfl)) (fun _ _ _ h => h) (Or.inl ⟨by rfl, ?_⟩) ?_ ?_
           rotate_left
           ·
            intro w'
            go_simp
            with_reducible rfl
           rotate_left
           ·
            simp only [Act.put, upL, i64_w, i32_w]
            rfl
           refine take_ (i := 19) (N := some 51) (v := ?_) (a' := ?_) #[true, true, true, true, true, true, true, true, true, true, true, true, true, true, true, true, true, true, true, true, true, true, true, false, false, false, false, false, false, false] rfl rfl (take_ofW HT_.out HW_.out (by kernel_rfl)) (fun _ _ _ h => h) (Or.inl ⟨by rfl, ?_⟩) hHeld ?_ ?_
           rotate_left
           ·
            rintro w' ⟨s0, s1, s2, s3, s4, s5, s6⟩
            go_simp
            with_reducible rfl
           rotate_left
           ·
            simp only [Act.put, upL, i64_w, i32_w]
            rfl
           refine take_ (i := 23) (N := some 55) (v := ?_) (a' := ?_) #[true, true, true, true, true, true, true, true, true, true, true, true, true, true, true, true, true, true, true, true, true, true, true, true, false, false, false, false, false, false] rfl rfl (take_ofW HT_.out HW_.out (by kernel_rfl)) (fun _ _ _ h => h) (Or.inl ⟨by rfl, ?_⟩) hHeld ?_ ?_
           rotate_left
           ·
            rintro w' ⟨s0, s1, s2, s3, s4, s5, s6⟩
            go_simp
            with_reducible rfl
           rotate_left
           ·
            simp only [Act.put, upL, i64_w, i32_w]
            rfl
           refine pure_ (i := 24) (N := some 56) (v := ?_) (a' := ?_) #[true, true, true, true, true, true, true, true, true, true, true, true, true, true, true, true, true, true, true, true, true, true, true, true, true, false, false, false, false, false] rfl rfl (any_of HT_.out (by kernel_rfl)) (fun _ _ _ h => h) (Or.inl ⟨by rfl, ?_⟩) ?_ ?_
           rotate_left
           ·
            intro w'
            go_simp
            with_reducible rfl
           rotate_left
           ·
            simp only [Act.put, upL, i64_w, i32_w]
            rfl
           refine pure_ (i := 25) (N := some 57) (v := ?_) (a' := ?_) #[true, true, true, true, true, true, true, true, true, true, true, true, true, true, true, true, true, true, true, true, true, true, true, true, true, true, false, false, false, false] rfl rfl (any_of HT_.out (by kernel_rfl)) (fun _ _ _ h => h) (Or.inl ⟨by rfl, ?_⟩) ?_ ?_
           rotate_left
           ·
            intro w'
            go_simp
            with_reducible rfl
           rotate_left
           ·
            simp only [Act.put, upL, i64_w, i32_w]
            rfl
           refine pure_ (i := 26) (N := some 58) (v := ?_) (a' := ?_) #[true, true, true, true, true, true, true, true, true, true, true, true, true, true, true, true, true, true, true, true, true, true, true, true, true, true, true, false, false, false] rfl rfl (any_of HT_.out (by kernel_rfl)) (fun _ _ _ h => h) (Or.inl ⟨by rfl, ?_⟩) ?_ ?_
           rotate_left
           ·
            intro w'
            go_simp
            with_reducible rfl
           rotate_left
           ·
            simp only [Act.put, upL, i64_w, i32_w]
            rfl
           refine one_ (i := 27) (N := none) #[true, true, true, true, true, true, true, true, true, true, true, true, true, true, true, true, true, true, true, true, true, true, true, true, true, true, true, true, false, false] rfl rfl (one_of HT_.out (by kernel_rfl)) (by decide) (fun K hK => ?_)
           refine skip_ (w1 := ?_) (by rfl) rfl ?_ ?_
           rotate_left
           ·
            go_simp
            rfl
           have r27 := Kd.R_far (p := ⟨go32, (x10_1 : Int).toNat, none⟩) (Kd.R_mono HO_7.out (fun k_ hk => (⟨hk, fun e_ => hk.1 (by rw [e_]; rfl)⟩ : _ ∧ k_ ≠ go32))) (fun _ hk => hk.2) (.int .i64 ji29)
           obtain ⟨ad27, e27, hc27⟩ := Kd.at_int (Kd.R_reads' r27).2.2 x10_1 (of_eq_true p169) (of_eq_true q169)
           obtain rfl : ad169 = ad27 := (by injection e27)
           have bk27 := blk_far BK168.out (p := ⟨go32, (x10_1 : Int).toNat, none⟩) (by have h_ := Kd.R_ne HO_a0.out BK168.out (by decide); intro e_; exact h_ (by rw [e_]; rfl)) (.int .i64 ji29)
           have bl27 := (show Below w.heap.size w (w36.setCell ⟨go32, (x10_1 : Int).toNat, none⟩ (.int .i64 ji29)) from below_set HB.out GB32.out).cell (World.block_lt_of_cell? w _ hw170_0)
           refine hK.out _ _ ⟨(blk_cell bk27 0).trans rfl, (blk_cell bk27 1).trans rfl, (blk_cell bk27 2).trans rfl, hc27, bl27.trans hw170_0, bl27.trans hw170_0, hc27⟩ (fun hHeld2 => ?_)
           clear r27 hc27 e27 bk27 bl27
           clear hK K
           refine pure_ (i := 28) (N := some 59) (v := ?_) (a' := ?_) #[true, true, true, true, true, true, true, true, true, true, true, true, true, true, true, true, true, true, true, true, true, true, true, true, true, true, true, true, true, false] rfl rfl (any_of HT_.out (by kernel_rfl)) (fun _ _ _ h => h) (Or.inl ⟨by rfl, ?_⟩) ?_ ?_
           rotate_left
           ·
            intro w'
            go_simp
            with_reducible rfl
           rotate_left
           ·
            simp only [Act.put, upL, i64_w, i32_w]
            rfl
           refine last_ (i := 29) (N := none) #[true, true, true, true, true, true, true, true, true, true, true, true, true, true, true, true, true, true, true, true, true, true, true, true, true, true, true, true, true, true] rfl rfl (one_of HT_.out (by kernel_rfl)) (by decide) (fun K hK => ?_)
           refine skip_ (w1 := ?_) (by rfl) rfl ?_ ?_
           rotate_left
           ·
            go_simp
            rfl
           refine hK.out _ _ ?_
           clear hK K
           refine done_ (done_of HT_.out (by kernel_rfl)) ?_
           have bk40 := blk_far (blk_far BK168.out (p := ⟨go32, (x10_1 : Int).toNat, none⟩) (by have h_ := Kd.R_ne HO_a0.out BK168.out (by decide); intro e_; exact h_ (by rw [e_]; rfl)) (.int .i64 ji29)) (p := ⟨go34, (x10_1 : Int).toNat, none⟩) (by have h_ := Kd.R_ne HO_a2.out BK168.out (by decide); intro e_; exact h_ (by rw [e_]; rfl)) (.int .i64 ji30)
           have hcz40_0 := (blk_cell bk40 0).trans rfl
           have hcz40_1 := (blk_cell bk40 1).trans rfl
           have hcz40_2 := (blk_cell bk40 2).trans rfl
           have hfz40_0 := blk_frozen bk40 0
           have hfz40_1 := blk_frozen bk40 1
           have hfz40_2 := blk_frozen bk40 2
           have r40 := Kd.R_far (p := ⟨go34, (x10_1 : Int).toNat, none⟩) (Kd.R_mono HQ38.out (fun k_ hk => (⟨hk, fun e_ => hk.2 (by rw [e_]; rfl)⟩ : _ ∧ k_ ≠ go34))) (fun _ hk => hk.2) (.int .i64 ji30)
           have q40 : x10_1 < (y173.length : Int) := by rw [Ny173.out, List.length_set]; exact of_eq_true q32
           have v40 : rd y173 x10_1 = ji29 := by rw [Ny173.out]; have hq := of_eq_true q32; have hp := of_eq_true p32; simp [rd, List.getD_eq_getElem?_getD, List.getElem?_set, show x10_1.toNat < xa0_1.length by omega]
           obtain ⟨hv40, hvf40⟩ := Kd.R_celln 0 r40 (x10_1 : Int) (of_eq_true p32) (of_eq_true q32)
           rw [show rdOf 0 y173 x10_1 = ji29 from v40] at hv40
           have p35 : 0 ≤ (x10_1 : Int) := upA
           have q35 : (x10_1 : Int) < ((xa0_1.length : Int) : Int) := upA
           replace p35 := eq_true p35
           replace q35 := eq_true q35
           try go_wp2
           go_roundg k1
           case measure => have := HK1.out; omega
           case rel => exact ⟨(x7_1), (wrap64 (x9_1 + (ji29))), (wrap64 (x10_1 + 1)), (y173), (y174), (.slice (some ⟨go32, 0, none⟩) xa0_1.length co32), (.slice (some ⟨go34, 0, none⟩) xa2_1.length co34), (by first | rfl | (simp; done) | (simp only [← hji29] <;> (first | rfl | simp)) | (simp [*]; done)), (upE), H', ⟨by have := HK1.out; omega⟩, ⟨by (with_reducible repeat (first | apply Kd.R_alloc | apply Kd.R_drewN | apply Kd.R_drew)); exact Kd.R_mono (Kd.R_far (p := ⟨go34, (x10_1 : Int).toNat, none⟩) (Kd.R_far (p := ⟨go32, (x10_1 : Int).toNat, none⟩) (Kd.R_mono (Kd.R_mono HO_7.out (fun k_ hk => (⟨hk, fun e_ => hk.1 (by rw [e_]; rfl)⟩ : _ ∧ k_ ≠ go32))) (fun k_ hk => (⟨hk, fun e_ => hk.1.2 (by rw [e_]; rfl)⟩ : _ ∧ k_ ≠ go34))) (fun _ hk => hk.1.2) (.int .i64 ji29)) (fun _ hk => hk.2) (.int .i64 ji30)) (fun _ hk => ⟨hk.1.1.1, hk.1.1.2⟩)⟩, ⟨by (with_reducible repeat (first | apply Kd.R_alloc | apply Kd.R_drewN | apply Kd.R_drew)); exact Kd.R_mono (Kd.R_far (p := ⟨go34, (x10_1 : Int).toNat, none⟩) (Kd.R_mono HQ38.out (fun k_ hk => (⟨hk, fun e_ => hk.2 (by rw [e_]; rfl)⟩ : _ ∧ k_ ≠ go34))) (fun _ hk => hk.2) (.int .i64 ji30)) (fun _ hk => ⟨hk.1.1, hk.1.2⟩)⟩, ⟨by (with_reducible repeat (first | apply Kd.S_alloc | apply Kd.S_drewN | apply Kd.S_drew)); exact Kd.S_mono (Kd.S_far (p := ⟨go34, (x10_1 : Int).toNat, none⟩) (Kd.S_far (p := ⟨go32, (x10_1 : Int).toNat, none⟩) (Kd.S_mono (Kd.S_mono HO_a1.out (fun k_ hk => (⟨hk, fun e_ => hk.2.1 (by rw [e_]; rfl)⟩ : _ ∧ k_ ≠ go32))) (fun k_ hk => (⟨hk, fun e_ => hk.1.2.2 (by rw [e_]; rfl)⟩ : _ ∧ k_ ≠ go34))) (fun _ hk => hk.1.2) (.int .i64 ji29)) (fun _ hk => hk.2) (.int .i64 ji30)) (fun _ hk => ⟨hk.1.1.1, ⟨hk.1.1.2.1, hk.1.1.2.2⟩⟩)⟩, ⟨by (with_reducible repeat (first | apply Kd.R_alloc | apply Kd.R_drewN | apply Kd.R_drew)); exact Kd.R_mono HQ39.out (fun _ hk => ⟨hk.1.1, hk.1.2⟩)⟩, ⟨by (with_reducible repeat (first | refine blk_drewN ?_ _ | refine blk_drew ?_ | refine blk_alloc ?_ _)); refine blk_far ?_ (by have h_ := Kd.R_ne HO_a2.out BK168.out (by decide); intro e_; exact h_ (by rw [e_]; rfl)) _; (with_reducible repeat (first | refine blk_drewN ?_ _ | refine blk_drew ?_ | refine blk_alloc ?_ _)); refine blk_far ?_ (by have h_ := Kd.R_ne HO_a0.out BK168.out (by decide); intro e_; exact h_ (by rw [e_]; rfl)) _; (with_reducible repeat (first | refine blk_drewN ?_ _ | refine blk_drew ?_ | refine blk_alloc ?_ _)); exact BK168.out⟩, ⟨by repeat (first | (with_reducible first | exact HB.out | apply below_alloc | apply pw_below_drewN | apply below_drew1 | refine below_set ?_ GB32.out | refine below_set ?_ GB34.out | refine below_set ?_ GE168.out) | exact HB.out)⟩⟩
          ·
           rw [if_neg c33] at H
           exact absurd H (by simp)
         ·
          rw [if_neg c31] at H
          exact absurd H (by simp)
        ·
         rw [if_neg c28] at H
         exact absurd H (by simp)
       ·
        rw [if_neg c27] at H
        exact absurd H (by simp)
      ·
       rw [if_neg c26] at H
       exact absurd H (by simp)
     ·
      rw [if_neg c25] at H
      have c25b0 : decide (x10_1 < (l0.length : Int)) = false := decide_eq_false c25
      clear c25
      replace H := Option.bind_eq_some_iff.mp H
      obtain ⟨t176, A410, H⟩ := H
      replace H : (if t176 < x9_1 then (some (([] : List (S24)), false)) else (kinkeepref35_Settle.l1 k1 (l0.length : Int) x9_1 (([] : List (S24))) 0 xa0_1 t159 xa2_1)) = some (r1, r2) := H
      have A41 := sA A410
      clear A410
      by_cases c42 : t176 < x9_1
      ·
       rw [if_pos c42] at H
       have c42b0 : decide (t176 < x9_1) = true := decide_eq_true c42
       clear c42
       simp only [Option.some.injEq, Prod.mk.injEq] at H
       obtain ⟨rfl, rfl⟩ := H
       have hcz43_0 : wr.cell? ⟨gb168, 0, none⟩ = some (ua0) := (blk_cell BK168.out 0).trans rfl
       have hcz43_1 : wr.cell? ⟨gb168, 1, none⟩ = some (.slice Ao20 t159.length co20) := (blk_cell BK168.out 1).trans rfl
       have hcz43_2 : wr.cell? ⟨gb168, 2, none⟩ = some (ua2) := (blk_cell BK168.out 2).trans rfl
       have hfz43_0 := blk_frozen BK168.out 0
       have hfz43_1 := blk_frozen BK168.out 1
       have hfz43_2 := blk_frozen BK168.out 2
       obtain ⟨Ao44, co44, eo44⟩ := Kd.R_slice HO_a0.out
       subst eo44
       obtain ⟨Ao45, co45, eo45⟩ := Kd.R_slice HO_a2.out
       subst eo45
       go_wp2_with (first | ((with_reducible refine gate_callee (f := 56) rfl ?_); refine goesL_ (some 68) rfl rfl Try.func56 (by kernel_rfl) rfl #[.agg #[.slice Ao44 xa0_1.length co44, .slice Ao20 t159.length co20, .slice Ao45 xa2_1.length co45]] rfl upM ?_; (with_reducible refine (kinkeepref35_relief_flow.calls k1 _ _ xa0_1 _ _ t159 _ _ xa2_1 t176 _ ?side1 ?side2 ?side3 ?side4 ?side5 ?side6 A41.out).mono ?_); (case side1 => exact upX (Kd.R_reads' HO_a0.out).2.2); (case side2 => exact (Kd.R_reads' HO_a0.out).2.1); (case side3 => exact upX (Kd.S_reads' HO_a1.out).2.2); (case side4 => exact (Kd.S_reads' HO_a1.out).2.1); (case side5 => exact upX (Kd.R_reads' HO_a2.out).2.2); (case side6 => exact (Kd.R_reads' HO_a2.out).2.1); rintro e w46 ⟨rfl, hb⟩; refine ⟨_, rfl, ?_⟩; have n0_ := sA (Kd.R_below (upR HO_7.out) hb); have n1_ := sA (Kd.R_below (upR HO_a0.out) hb); have n2_ := sA (Kd.S_below (upS HO_a1.out) hb); have n3_ := sA (Kd.R_below (upR HO_a2.out) hb); have n4_ := sA (blk_below (g := gb168) (upK BK168.out) hb); have n5_ := sA (below_step (upB HB.out GE168.out) hb); clear HO_7; clear HO_a0; clear HO_a1; clear HO_a2; clear BK168; clear HB; have HO_7 := n0_; have HO_a0 := n1_; have HO_a1 := n2_; have HO_a2 := n3_; have BK168 := n4_; have HB := n5_; clear n0_ n1_ n2_ n3_ n4_ n5_; (try clear hb); (try clear hb2); (try clear hk); (try clear hi)))
       go_ret2
       exact ⟨_, by first | rfl | (simp [errW_none, errW_some] <;> rfl) | (simp [*, errW_none, errW_some] <;> rfl), by first | exact Kd.R_nil _ _ _ _ _ | exact Kd.N_nil _ _ _ _ _ | exact Kd.V_nil _ _ _ _ _ | exact Kd.Q_nil _ _ _ _ _ | exact Kd.S_nil _ _ _ _ _, upB HB.out GE168.out⟩
      ·
       rw [if_neg c42] at H
       have c42b0 : decide (t176 < x9_1) = false := decide_eq_false c42
       clear c42
       obtain ⟨y177, hy177⟩ : ∃ y_ : List (S24), y_ = (([] : List (S24))) := ⟨_, rfl⟩
       replace H : (kinkeepref35_Settle.l1 k1 (l0.length : Int) x9_1 y177 0 xa0_1 t159 xa2_1) = some (r1, r2) := by first | (rw [hy177]; with_reducible exact H) | (have H2_ := (Option.bind_some _ _).symm.trans H; rw [hy177]; with_reducible exact H2_) | (have H2_ := (Option.bind_some _ _).symm.trans H; with_reducible exact H2_) | with_reducible exact H | (rw [hy177]; exact H) | exact H
       have Ny177 := sA hy177
       clear hy177
       have H' := sA H
       clear H
       have hcz47_0 : wr.cell? ⟨gb168, 0, none⟩ = some (ua0) := (blk_cell BK168.out 0).trans rfl
       have hcz47_1 : wr.cell? ⟨gb168, 1, none⟩ = some (.slice Ao20 t159.length co20) := (blk_cell BK168.out 1).trans rfl
       have hcz47_2 : wr.cell? ⟨gb168, 2, none⟩ = some (ua2) := (blk_cell BK168.out 2).trans rfl
       have hfz47_0 := blk_frozen BK168.out 0
       have hfz47_1 := blk_frozen BK168.out 1
       have hfz47_2 := blk_frozen BK168.out 2
       obtain ⟨Ao48, co48, eo48⟩ := Kd.R_slice HO_a0.out
       subst eo48
       obtain ⟨Ao49, co49, eo49⟩ := Kd.R_slice HO_a2.out
       subst eo49
       go_wp2_with (first | ((with_reducible refine gate_callee (f := 56) rfl ?_); refine goesL_ (some 68) rfl rfl Try.func56 (by kernel_rfl) rfl #[.agg #[.slice Ao48 xa0_1.length co48, .slice Ao20 t159.length co20, .slice Ao49 xa2_1.length co49]] rfl upM ?_; (with_reducible refine (kinkeepref35_relief_flow.calls k1 _ _ xa0_1 _ _ t159 _ _ xa2_1 t176 _ ?side1 ?side2 ?side3 ?side4 ?side5 ?side6 A41.out).mono ?_); (case side1 => exact upX (Kd.R_reads' HO_a0.out).2.2); (case side2 => exact (Kd.R_reads' HO_a0.out).2.1); (case side3 => exact upX (Kd.S_reads' HO_a1.out).2.2); (case side4 => exact (Kd.S_reads' HO_a1.out).2.1); (case side5 => exact upX (Kd.R_reads' HO_a2.out).2.2); (case side6 => exact (Kd.R_reads' HO_a2.out).2.1); rintro e w50 ⟨rfl, hb⟩; refine ⟨_, rfl, ?_⟩; have n0_ := sA (Kd.R_below (upR HO_7.out) hb); have n1_ := sA (Kd.R_below (upR HO_a0.out) hb); have n2_ := sA (Kd.S_below (upS HO_a1.out) hb); have n3_ := sA (Kd.R_below (upR HO_a2.out) hb); have n4_ := sA (blk_below (g := gb168) (upK BK168.out) hb); have n5_ := sA (below_step (upB HB.out GE168.out) hb); clear HO_7; clear HO_a0; clear HO_a1; clear HO_a2; clear BK168; clear HB; have HO_7 := n0_; have HO_a0 := n1_; have HO_a1 := n2_; have HO_a2 := n3_; have BK168 := n4_; have HB := n5_; clear n0_ n1_ n2_ n3_ n4_ n5_; (try clear hb); (try clear hb2); (try clear hk); (try clear hi)) | ((with_reducible refine gate_dst (N := 71) rfl ?_); refine Kd.R_lit k24 _ 24 ?hg (N := 71) ?hd (xs := ([] : List (S24))) (inner := []) (ok := fun _ => True) (okp := fun _ => True) ?hr ?hp (fun _ hk => hk) trivial (Below.refl _ _) (Nat.le_refl _) (by simp) ?_; (case hd => rfl); (case hg => rfl); (case hr => first | (go_simp; done) | (go_simp; rfl)); (case hp => exact (Reps.none _ _)); intro v178 w51 ho52 hb hg_ hnew_; clear hg_ hnew_; (first | rw [← Ny177.out] at ho52 | (simp only [Int.reduceToNat] at ho52; rw [← Ny177.out] at ho52)); have n0_ := sA (Kd.R_below (upR HO_7.out) hb); have n1_ := sA (Kd.R_below (upR HO_a0.out) hb); have n2_ := sA (Kd.S_below (upS HO_a1.out) hb); have n3_ := sA (Kd.R_below (upR HO_a2.out) hb); have n4_ := sA (Kd.R_lower ho52 (below_size (upB HB.out GE168.out))); have n5_ := sA (blk_below (g := gb168) (upK BK168.out) hb); have n6_ := sA (below_step (upB HB.out GE168.out) hb); clear HO_7; clear HO_a0; clear HO_a1; clear HO_a2; clear BK168; clear HB; have HO_7 := n0_; have HO_a0 := n1_; have HO_a1 := n2_; have HO_a2 := n3_; have HO179 := n4_; have BK168 := n5_; have HB := n6_; clear n0_ n1_ n2_ n3_ n4_ n5_ n6_; clear hb ho52))
       go_loopg [9, 11, 12] k1 (fun kq v9 v11 v12 w' => ∃ (x9_2 : Int) (x11_2 : List (S24)) (x12_2 : Int) (xa0_2 : List Int) (xa1_2 : List (List Int)) (xa2_2 : List Int) (ua0 : Value) (ua1 : Value) (ua2 : Value), v9 = .int .i64 x9_2 ∧ v12 = .int .i64 x12_2 ∧ Aside0 (kinkeepref35_Settle.l1 kq (l0.length : Int) x9_2 x11_2 x12_2 xa0_2 xa1_2 xa2_2 = some (r1, r2)) ∧ Aside0 (kq ≤ k1) ∧ Aside0 (Kd.R k24 24 w' w.heap.size (fun _ => True) v11 x11_2) ∧ Aside0 (Kd.R (Kd.int .i64) 3 w' w.heap.size (fun k_ => some k_ ≠ (ua2 : Value).ownBlock) ua0 xa0_2) ∧ Aside0 (Kd.S (Kd.slice 3 (Kd.int .i64)) 31 w' w.heap.size (fun k_ => some k_ ≠ (ua0 : Value).ownBlock ∧ some k_ ≠ (ua2 : Value).ownBlock) ua1 xa1_2) ∧ Aside0 (Kd.R (Kd.int .i64) 3 w' w.heap.size (fun k_ => some k_ ≠ (ua0 : Value).ownBlock) ua2 xa2_2) ∧ Aside0 (w'.heap[gb168]? = some (.cells #[ua0, ua1, ua2] 75 (0, 0))) ∧ Aside0 (Below w.heap.size w w'))
       case atStart => exact ⟨(x9_1), (y177), (0), (xa0_1), (t159), (xa2_1), (.slice Ao48 xa0_1.length co48), (.slice Ao20 t159.length co20), (.slice Ao49 xa2_1.length co49), (upE), (upE), H', ⟨Nat.le_refl _⟩, ⟨upR HO179.out⟩, ⟨by (with_reducible repeat (first | apply Kd.R_alloc | apply Kd.R_drewN | apply Kd.R_drew)); exact Kd.R_mono HO_a0.out (fun _ hk => hk.2)⟩, ⟨by (with_reducible repeat (first | apply Kd.S_alloc | apply Kd.S_drewN | apply Kd.S_drew)); exact Kd.S_mono HO_a1.out (fun _ hk => ⟨hk.2.1, hk.2.2⟩)⟩, ⟨by (with_reducible repeat (first | apply Kd.R_alloc | apply Kd.R_drewN | apply Kd.R_drew)); exact Kd.R_mono HO_a2.out (fun _ hk => hk.2)⟩, ⟨by (with_reducible repeat (first | refine blk_drewN ?_ _ | refine blk_drew ?_ | refine blk_alloc ?_ _)); exact BK168.out⟩, ⟨upB HB.out GE168.out⟩⟩
       case round =>
        clear H'
        try clear p1
        try clear q1
        try clear hx1
        try clear c2
        try clear p2
        try clear c3
        try clear p3
        try clear q3
        try clear hx3
        try clear hf3
        try clear c4
        try clear c5
        try clear p6
        try clear p16
        try clear q16
        try clear hx16
        try clear p17
        try clear q17
        try clear hx17
        try clear c25
        try clear c25b0
        try clear c26
        try clear c26b0
        try clear c27
        try clear c27b0
        try clear c28
        try clear c28b0
        try clear c31
        try clear c31b0
        try clear p32
        try clear q32
        try clear hx32
        try clear hf32
        try clear c33
        try clear c33b0
        try clear p34
        try clear q34
        try clear hx34
        try clear hf34
        try clear p35
        try clear q35
        try clear c42
        try clear c42b0
        try clear hcz40_0
        try clear hcz40_1
        try clear hcz40_2
        try clear hcz43_0
        try clear hcz43_1
        try clear hcz43_2
        try clear hcz47_0
        try clear hcz47_1
        try clear hcz47_2
        try clear hfz40_0
        try clear hfz40_1
        try clear hfz40_2
        try clear hfz43_0
        try clear hfz43_1
        try clear hfz43_2
        try clear hfz47_0
        try clear hfz47_1
        try clear hfz47_2
        try clear hx169_0
        try clear hx170_0
        try clear hx171_0
        try clear hx172_0
        try clear hx32_0
        try clear hx34_0
        try clear p169
        try clear p170
        try clear p171
        try clear p172
        try clear p2
        try clear p32
        try clear p34
        try clear p35
        try clear q169
        try clear q170
        try clear q171
        try clear q172
        try clear q32
        try clear q34
        try clear q35
        obtain ⟨x9_2, x11_2, x12_2, xa0_2, xa1_2, xa2_2, ua0, ua1, ua2, rfl, rfl, HA, HK2, HO_11, HO_a0, HO_a1, HO_a2, BK168, HB⟩ := hrel
        cases gk with
        | zero => exact absurd HA.out (by simp [kinkeepref35_Settle.l1])
        | succ k2 =>
         have H := HA.out
         clear HA
         simp only [kinkeepref35_Settle.l1] at H
         by_cases c53 : x12_2 < (l0.length : Int)
         ·
          rw [if_pos c53] at H
          have c53b0 : decide (x12_2 < (l0.length : Int)) = true := decide_eq_true c53
          clear c53
          have H' := sA H
          clear H
          go_wp2
          go_loopg [9, 11, 13] k2 (fun kq v9 v11 v13 w' => ∃ (x9_3 : Int) (x11_3 : List (S24)) (x13_3 : Int) (xa0_3 : List Int) (xa1_3 : List (List Int)) (xa2_3 : List Int) (ua0 : Value) (ua1 : Value) (ua2 : Value), v9 = .int .i64 x9_3 ∧ v13 = .int .i64 x13_3 ∧ Aside0 (kinkeepref35_Settle.l2 kq (l0.length : Int) x9_3 x11_3 x12_2 x13_3 xa0_3 xa1_3 xa2_3 = some (r1, r2)) ∧ Aside0 (kq ≤ k2) ∧ Aside0 (Kd.R k24 24 w' w.heap.size (fun _ => True) v11 x11_3) ∧ Aside0 (Kd.R (Kd.int .i64) 3 w' w.heap.size (fun k_ => some k_ ≠ (ua2 : Value).ownBlock) ua0 xa0_3) ∧ Aside0 (Kd.S (Kd.slice 3 (Kd.int .i64)) 31 w' w.heap.size (fun k_ => some k_ ≠ (ua0 : Value).ownBlock ∧ some k_ ≠ (ua2 : Value).ownBlock) ua1 xa1_3) ∧ Aside0 (Kd.R (Kd.int .i64) 3 w' w.heap.size (fun k_ => some k_ ≠ (ua0 : Value).ownBlock) ua2 xa2_3) ∧ Aside0 (w'.heap[gb168]? = some (.cells #[ua0, ua1, ua2] 75 (0, 0))) ∧ Aside0 (Below w.heap.size w w'))
          case atStart => exact ⟨(x9_2), (x11_2), (0), (xa0_2), (xa1_2), (xa2_2), (ua0), (ua1), (ua2), (upE), (upE), H', ⟨Nat.le_refl _⟩, ⟨upR HO_11.out⟩, ⟨upR HO_a0.out⟩, ⟨upS HO_a1.out⟩, ⟨upR HO_a2.out⟩, ⟨by (with_reducible repeat (first | refine blk_drewN ?_ _ | refine blk_drew ?_ | refine blk_alloc ?_ _)); exact BK168.out⟩, ⟨upB HB.out GE168.out⟩⟩
          case round =>
           clear H'
           try clear p1
           try clear q1
           try clear hx1
           try clear c2
           try clear p2
           try clear c3
           try clear p3
           try clear q3
           try clear hx3
           try clear hf3
           try clear c4
           try clear c5
           try clear p6
           try clear p16
           try clear q16
           try clear hx16
           try clear p17
           try clear q17
           try clear hx17
           try clear c25
           try clear c25b0
           try clear c26
           try clear c26b0
           try clear c27
           try clear c27b0
           try clear c28
           try clear c28b0
           try clear c31
           try clear c31b0
           try clear p32
           try clear q32
           try clear hx32
           try clear hf32
           try clear c33
           try clear c33b0
           try clear p34
           try clear q34
           try clear hx34
           try clear hf34
           try clear p35
           try clear q35
           try clear c42
           try clear c42b0
           try clear c53
           try clear c53b0
           try clear hcz40_0
           try clear hcz40_1
           try clear hcz40_2
           try clear hcz43_0
           try clear hcz43_1
           try clear hcz43_2
           try clear hcz47_0
           try clear hcz47_1
           try clear hcz47_2
           try clear hfz40_0
           try clear hfz40_1
           try clear hfz40_2
           try clear hfz43_0
           try clear hfz43_1
           try clear hfz43_2
           try clear hfz47_0
           try clear hfz47_1
           try clear hfz47_2
           try clear hx169_0
           try clear hx170_0
           try clear hx171_0
           try clear hx172_0
           try clear hx32_0
           try clear hx34_0
           try clear p1
           try clear p16
           try clear p169
           try clear p17
           try clear p170
           try clear p171
           try clear p172
           try clear p2
           try clear p3
           try clear p32
           try clear p34
           try clear p35
           try clear p6
           try clear q1
           try clear q16
           try clear q169
           try clear q17
           try clear q170
           try clear q171
           try clear q172
           try clear q3
           try clear q32
           try clear q34
           try clear q35
           obtain ⟨x9_3, x11_3, x13_3, xa0_3, xa1_3, xa2_3, ua0, ua1, ua2, rfl, rfl, HA, HK3, HO_11, HO_a0, HO_a1, HO_a2, BK168, HB⟩ := hrel
           cases gk with
           | zero => exact absurd HA.out (by simp [kinkeepref35_Settle.l2])
           | succ k3 =>
            have H := HA.out
            clear HA
            simp only [kinkeepref35_Settle.l2] at H
            by_cases c54 : x13_3 < (l0.length : Int)
            ·
             rw [if_pos c54] at H
             have c54b0 : decide (x13_3 < (l0.length : Int)) = true := decide_eq_true c54
             clear c54
             have H' := sA H
             clear H
             go_wp2
             go_loopg [9, 11, 14] k3 (fun kq v9 v11 v14 w' => ∃ (x9_4 : Int) (x11_4 : List (S24)) (x14_4 : Int) (xa0_4 : List Int) (xa1_4 : List (List Int)) (xa2_4 : List Int) (ua0 : Value) (ua1 : Value) (ua2 : Value), v9 = .int .i64 x9_4 ∧ v14 = .int .i64 x14_4 ∧ Aside0 (kinkeepref35_Settle.l3 kq (l0.length : Int) x9_4 x11_4 x12_2 x13_3 x14_4 xa0_4 xa1_4 xa2_4 = some (r1, r2)) ∧ Aside0 (kq ≤ k3) ∧ Aside0 (Kd.R k24 24 w' w.heap.size (fun _ => True) v11 x11_4) ∧ Aside0 (Kd.R (Kd.int .i64) 3 w' w.heap.size (fun k_ => some k_ ≠ (ua2 : Value).ownBlock) ua0 xa0_4) ∧ Aside0 (Kd.S (Kd.slice 3 (Kd.int .i64)) 31 w' w.heap.size (fun k_ => some k_ ≠ (ua0 : Value).ownBlock ∧ some k_ ≠ (ua2 : Value).ownBlock) ua1 xa1_4) ∧ Aside0 (Kd.R (Kd.int .i64) 3 w' w.heap.size (fun k_ => some k_ ≠ (ua0 : Value).ownBlock) ua2 xa2_4) ∧ Aside0 (w'.heap[gb168]? = some (.cells #[ua0, ua1, ua2] 75 (0, 0))) ∧ Aside0 (Below w.heap.size w w'))
             case atStart => exact ⟨(x9_3), (x11_3), (0), (xa0_3), (xa1_3), (xa2_3), (ua0), (ua1), (ua2), (upE), (upE), H', ⟨Nat.le_refl _⟩, ⟨upR HO_11.out⟩, ⟨upR HO_a0.out⟩, ⟨upS HO_a1.out⟩, ⟨upR HO_a2.out⟩, ⟨by (with_reducible repeat (first | refine blk_drewN ?_ _ | refine blk_drew ?_ | refine blk_alloc ?_ _)); exact BK168.out⟩, ⟨upB HB.out GE168.out⟩⟩
             case round =>
              clear H'
              try clear p1
              try clear q1
              try clear hx1
              try clear c2
              try clear p2
              try clear c3
              try clear p3
              try clear q3
              try clear hx3
              try clear hf3
              try clear c4
              try clear c5
              try clear p6
              try clear p16
              try clear q16
              try clear hx16
              try clear p17
              try clear q17
              try clear hx17
              try clear c25
              try clear c25b0
              try clear c26
              try clear c26b0
              try clear c27
              try clear c27b0
              try clear c28
              try clear c28b0
              try clear c31
              try clear c31b0
              try clear p32
              try clear q32
              try clear hx32
              try clear hf32
              try clear c33
              try clear c33b0
              try clear p34
              try clear q34
              try clear hx34
              try clear hf34
              try clear p35
              try clear q35
              try clear c42
              try clear c42b0
              try clear c53
              try clear c53b0
              try clear c54
              try clear c54b0
              try clear hcz40_0
              try clear hcz40_1
              try clear hcz40_2
              try clear hcz43_0
              try clear hcz43_1
              try clear hcz43_2
              try clear hcz47_0
              try clear hcz47_1
              try clear hcz47_2
              try clear hfz40_0
              try clear hfz40_1
              try clear hfz40_2
              try clear hfz43_0
              try clear hfz43_1
              try clear hfz43_2
              try clear hfz47_0
              try clear hfz47_1
              try clear hfz47_2
              try clear hx169_0
              try clear hx170_0
              try clear hx171_0
              try clear hx172_0
              try clear hx32_0
              try clear hx34_0
              try clear p1
              try clear p16
              try clear p169
              try clear p17
              try clear p170
              try clear p171
              try clear p172
              try clear p2
              try clear p3
              try clear p32
              try clear p34
              try clear p35
              try clear p6
              try clear q1
              try clear q16
              try clear q169
              try clear q17
              try clear q170
              try clear q171
              try clear q172
              try clear q3
              try clear q32
              try clear q34
              try clear q35
              obtain ⟨x9_4, x11_4, x14_4, xa0_4, xa1_4, xa2_4, ua0, ua1, ua2, rfl, rfl, HA, HK4, HO_11, HO_a0, HO_a1, HO_a2, BK168, HB⟩ := hrel
              cases gk with
              | zero => exact absurd HA.out (by simp [kinkeepref35_Settle.l3])
              | succ k4 =>
               have H := HA.out
               clear HA
               simp only [kinkeepref35_Settle.l3] at H
               by_cases c55 : x14_4 < (l0.length : Int)
               ·
                rw [if_pos c55] at H
                have c55b0 : decide (x14_4 < (l0.length : Int)) = true := decide_eq_true c55
                clear c55
                have HC56 := sA H
                clear H
                go_upto_region 22 with (fail)
                go_cut [99] (fun v99 wc => ∃ (kq : Nat) (x99_55 : Bool), v99 = .bool x99_55 ∧ Aside0 (kinkeepref35_Settle.j4 kq (l0.length : Int) x9_4 x11_4 x12_2 x13_3 x14_4 x99_55 xa0_4 xa1_4 xa2_4 = some (r1, r2)) ∧ Aside0 (kq ≤ k4) ∧ Aside0 (Kd.R k24 24 wc w.heap.size (fun _ => True) u11 x11_4) ∧ Aside0 (Kd.R (Kd.int .i64) 3 wc w.heap.size (fun k_ => some k_ ≠ (ua2 : Value).ownBlock) ua0 xa0_4) ∧ Aside0 (Kd.S (Kd.slice 3 (Kd.int .i64)) 31 wc w.heap.size (fun k_ => some k_ ≠ (ua0 : Value).ownBlock ∧ some k_ ≠ (ua2 : Value).ownBlock) ua1 xa1_4) ∧ Aside0 (Kd.R (Kd.int .i64) 3 wc w.heap.size (fun k_ => some k_ ≠ (ua0 : Value).ownBlock) ua2 xa2_4) ∧ Aside0 (wc.heap[gb168]? = some (.cells #[ua0, ua1, ua2] 75 (0, 0))) ∧ Aside0 (Below w.heap.size w wc))
                case first =>
                 have H := HC56.out
                 clear HC56
                 by_cases c57 : x12_2 = x13_3
                 ·
                  rw [if_pos c57] at H
                  have c57b0 : (x12_2 == x13_3) = true := beq_iff_eq.mpr c57
                  have c57b1 : (x12_2 != x13_3) = false := bne_eq_false_iff_eq.mpr c57
                  clear c57
                  (first | rw [c57b0] | (simp only [i64_w, i32_w]; rw [c57b0]) | skip)
                  have H' := sA H
                  clear H
                  go_wp2
                  go_meet
                  case rel => exact ⟨_, (true), (upE), H', ⟨by have := HK1.out; have := HK2.out; have := HK3.out; have := HK4.out; first | omega | exact Nat.le_refl _⟩, ⟨upR HO_11.out⟩, ⟨upR HO_a0.out⟩, ⟨upS HO_a1.out⟩, ⟨upR HO_a2.out⟩, ⟨by (with_reducible repeat (first | refine blk_drewN ?_ _ | refine blk_drew ?_ | refine blk_alloc ?_ _)); exact BK168.out⟩, ⟨upB HB.out GE168.out⟩⟩
                 ·
                  rw [if_neg c57] at H
                  have c57b0 : (x12_2 == x13_3) = false := beq_eq_false_iff_ne.mpr c57
                  have c57b1 : (x12_2 != x13_3) = true := bne_iff_ne.mpr c57
                  (first | rw [c57b0] | (simp only [i64_w, i32_w]; rw [c57b0]) | skip)
                  by_cases c58 : x12_2 = x14_4
                  ·
                   rw [if_pos c58] at H
                   have c58b0 : (x12_2 == x14_4) = true := beq_iff_eq.mpr c58
                   have c58b1 : (x12_2 != x14_4) = false := bne_eq_false_iff_eq.mpr c58
                   clear c58
                   have H' := sA H
                   clear H
                   go_wp2
                   go_meet
                   case rel => exact ⟨_, (true), (upE), H', ⟨by have := HK1.out; have := HK2.out; have := HK3.out; have := HK4.out; first | omega | exact Nat.le_refl _⟩, ⟨upR HO_11.out⟩, ⟨upR HO_a0.out⟩, ⟨upS HO_a1.out⟩, ⟨upR HO_a2.out⟩, ⟨by (with_reducible repeat (first | refine blk_drewN ?_ _ | refine blk_drew ?_ | refine blk_alloc ?_ _)); exact BK168.out⟩, ⟨upB HB.out GE168.out⟩⟩
                  ·
                   rw [if_neg c58] at H
                   have c58b0 : (x12_2 == x14_4) = false := beq_eq_false_iff_ne.mpr c58
                   have c58b1 : (x12_2 != x14_4) = true := bne_iff_ne.mpr c58
                   have H' := sA H
                   clear H
                   go_wp2
                   go_meet
                   case rel => exact ⟨_, ((x13_3 == x14_4)), (upE), H', ⟨by have := HK1.out; have := HK2.out; have := HK3.out; have := HK4.out; first | omega | exact Nat.le_refl _⟩, ⟨upR HO_11.out⟩, ⟨upR HO_a0.out⟩, ⟨upS HO_a1.out⟩, ⟨upR HO_a2.out⟩, ⟨by (with_reducible repeat (first | refine blk_drewN ?_ _ | refine blk_drew ?_ | refine blk_alloc ?_ _)); exact BK168.out⟩, ⟨upB HB.out GE168.out⟩⟩
                case rest =>
                 clear HC56
                 try clear p1
                 try clear q1
                 try clear hx1
                 try clear c2
                 try clear p2
                 try clear c3
                 try clear p3
                 try clear q3
                 try clear hx3
                 try clear hf3
                 try clear c4
                 try clear c5
                 try clear p6
                 try clear p16
                 try clear q16
                 try clear hx16
                 try clear p17
                 try clear q17
                 try clear hx17
                 try clear c25
                 try clear c25b0
                 try clear c26
                 try clear c26b0
                 try clear c27
                 try clear c27b0
                 try clear c28
                 try clear c28b0
                 try clear c31
                 try clear c31b0
                 try clear p32
                 try clear q32
                 try clear hx32
                 try clear hf32
                 try clear c33
                 try clear c33b0
                 try clear p34
                 try clear q34
                 try clear hx34
                 try clear hf34
                 try clear p35
                 try clear q35
                 try clear c42
                 try clear c42b0
                 try clear c53
                 try clear c53b0
                 try clear c54
                 try clear c54b0
                 try clear c55
                 try clear c55b0
                 try clear c56
                 try clear c57
                 try clear c57b0
                 try clear c57b1
                 try clear c58
                 try clear c58b0
                 try clear c58b1
                 try clear hcz40_0
                 try clear hcz40_1
                 try clear hcz40_2
                 try clear hcz43_0
                 try clear hcz43_1
                 try clear hcz43_2
                 try clear hcz47_0
                 try clear hcz47_1
                 try clear hcz47_2
                 try clear hfz40_0
                 try clear hfz40_1
                 try clear hfz40_2
                 try clear hfz43_0
                 try clear hfz43_1
                 try clear hfz43_2
                 try clear hfz47_0
                 try clear hfz47_1
                 try clear hfz47_2
                 try clear hx169_0
                 try clear hx170_0
                 try clear hx171_0
                 try clear hx172_0
                 try clear hx32_0
                 try clear hx34_0
                 try clear p1
                 try clear p16
                 try clear p169
                 try clear p17
                 try clear p170
                 try clear p171
                 try clear p172
                 try clear p2
                 try clear p3
                 try clear p32
                 try clear p34
                 try clear p35
                 try clear p6
                 try clear q1
                 try clear q16
                 try clear q169
                 try clear q17
                 try clear q170
                 try clear q171
                 try clear q172
                 try clear q3
                 try clear q32
                 try clear q34
                 try clear q35
                 obtain ⟨kq, x99_55, rfl, HA, HJ55, HO_11, HO_a0, HO_a1, HO_a2, BK168, HB⟩ := hcut
                 cases kq with
                 | zero => exact absurd HA.out (by simp [kinkeepref35_Settle.j4])
                 | succ kj55 =>
                  have H := HA.out
                  clear HA
                  simp only [kinkeepref35_Settle.j4] at H
                  by_cases c59 : x99_55 = true
                  ·
                   subst c59
                   have H1 : (kinkeepref35_Settle.l3 kj55 (l0.length : Int) x9_4 x11_4 x12_2 x13_3 (wrap64 (x14_4 + 1)) xa0_4 xa1_4 xa2_4) = some (r1, r2) := by rw [if_pos rfl] at H; exact H
                   clear H
                   have H := H1
                   clear H1
                   have H' := sA H
                   clear H
                   go_wp2
                   go_roundg kj55
                   case measure => have := HK1.out; have := HK2.out; have := HK3.out; have := HK4.out; have := HJ55.out; omega
                   case rel => exact ⟨(x9_4), (x11_4), (wrap64 (x14_4 + 1)), (xa0_4), (xa1_4), (xa2_4), (ua0), (ua1), (ua2), (upE), (upE), H', ⟨by have := HK1.out; have := HK2.out; have := HK3.out; have := HK4.out; have := HJ55.out; omega⟩, ⟨upR HO_11.out⟩, ⟨upR HO_a0.out⟩, ⟨upS HO_a1.out⟩, ⟨upR HO_a2.out⟩, ⟨by (with_reducible repeat (first | refine blk_drewN ?_ _ | refine blk_drew ?_ | refine blk_alloc ?_ _)); exact BK168.out⟩, ⟨upB HB.out GE168.out⟩⟩
                  ·
                   replace c59 := Bool.eq_false_iff.mpr c59
                   subst c59
                   have H1 : (if 0 ≤ x12_2 then (if x12_2 < (xa0_4.length : Int) then (if x12_2 < (xa1_4.length : Int) then (if 0 ≤ x13_3 then (if x13_3 < ((rd_L1 xa1_4 x12_2).length : Int) then (if 0 ≤ x14_4 then (if x14_4 < (xa2_4.length : Int) then (kinkeepref35_Settle.l4 kj55 (l0.length : Int) x9_4 x11_4 x12_2 x13_3 x14_4 (mn (mn (rd xa0_4 x12_2) (rd (rd_L1 xa1_4 x12_2) x13_3)) (rd xa2_4 x14_4)) xa0_4 xa1_4 xa2_4) else (none)) else (none)) else (none)) else (none)) else (none)) else (none)) else (none)) = some (r1, r2) := by rw [if_neg (show ¬ (false = true) by decide)] at H; exact H
                   clear H
                   have H := H1
                   clear H1
                   by_cases c60 : 0 ≤ x12_2
                   ·
                    rw [if_pos c60] at H
                    have c60b0 : decide (0 ≤ x12_2) = true := decide_eq_true c60
                    clear c60
                    by_cases c61 : x12_2 < (xa0_4.length : Int)
                    ·
                     rw [if_pos c61] at H
                     have c61b0 : decide (x12_2 < (xa0_4.length : Int)) = true := decide_eq_true c61
                     clear c61
                     by_cases c62 : x12_2 < (xa1_4.length : Int)
                     ·
                      rw [if_pos c62] at H
                      have c62b0 : decide (x12_2 < (xa1_4.length : Int)) = true := decide_eq_true c62
                      clear c62
                      by_cases c63 : 0 ≤ x13_3
                      ·
                       rw [if_pos c63] at H
                       have c63b0 : decide (0 ≤ x13_3) = true := decide_eq_true c63
                       clear c63
                       by_cases c64 : x13_3 < ((rd_L1 xa1_4 x12_2).length : Int)
                       ·
                        rw [if_pos c64] at H
                        have c64b0 : decide (x13_3 < ((rd_L1 xa1_4 x12_2).length : Int)) = true := decide_eq_true c64
                        clear c64
                        by_cases c65 : 0 ≤ x14_4
                        ·
                         rw [if_pos c65] at H
                         have c65b0 : decide (0 ≤ x14_4) = true := decide_eq_true c65
                         clear c65
                         by_cases c66 : x14_4 < (xa2_4.length : Int)
                         ·
                          rw [if_pos c66] at H
                          have c66b0 : decide (x14_4 < (xa2_4.length : Int)) = true := decide_eq_true c66
                          clear c66
                          obtain ⟨ji67, hji67⟩ : ∃ j_ : Int, (mn (rd xa0_4 x12_2) (rd (rd_L1 xa1_4 x12_2) x13_3)) = j_ := ⟨_, rfl⟩
                          replace H : (kinkeepref35_Settle.l4 kj55 (l0.length : Int) x9_4 x11_4 x12_2 x13_3 x14_4 (mn (ji67) (rd xa2_4 x14_4)) xa0_4 xa1_4 xa2_4) = some (r1, r2) := by first | (rw [hji67] at H; exact H) | (simp only [hji67] at H ⊢; exact H)
                          have hji67_ : (if (rd (rd_L1 xa1_4 x12_2) x13_3) < (rd xa0_4 x12_2) then (rd (rd_L1 xa1_4 x12_2) x13_3) else (rd xa0_4 x12_2)) = ji67 := hji67
                          obtain ⟨ji68, hji68⟩ : ∃ j_ : Int, (mn (ji67) (rd xa2_4 x14_4)) = j_ := ⟨_, rfl⟩
                          replace H : (kinkeepref35_Settle.l4 kj55 (l0.length : Int) x9_4 x11_4 x12_2 x13_3 x14_4 ji68 xa0_4 xa1_4 xa2_4) = some (r1, r2) := by first | (rw [hji68] at H; exact H) | (simp only [hji68] at H ⊢; exact H)
                          have hji68_ : (if (rd xa2_4 x14_4) < (ji67) then (rd xa2_4 x14_4) else (ji67)) = ji68 := hji68
                          have H' := sA H
                          clear H
                          try go_wp2
                          have n0_ := sA (Kd.R_drew HO_11.out)
                          have n1_ := sA (Kd.R_drew HO_a0.out)
                          have n2_ := sA (Kd.S_drew HO_a1.out)
                          have n3_ := sA (Kd.R_drew HO_a2.out)
                          have n4_ := sA (blk_drew BK168.out)
                          have n5_ := sA (below_drew1 HB.out)
                          clear HO_11
                          clear HO_a0
                          clear HO_a1
                          clear HO_a2
                          clear BK168
                          clear HB
                          have HO_11 := n0_
                          have HO_a0 := n1_
                          have HO_a1 := n2_
                          have HO_a2 := n3_
                          have BK168 := n4_
                          have HB := n5_
                          clear n0_ n1_ n2_ n3_ n4_ n5_
                          obtain ⟨Ao70, co70, eo70⟩ := Kd.R_slice HO_a0.out
                          (first | subst eo70 | (injection eo70 with f1_ f2_ f3_; have f4_ := f1_.symm; have f5_ := f3_.symm; clear f1_ f2_ f3_; subst f4_; subst f5_))
                          have p180 : 0 ≤ (x12_2 : Int) := upA
                          have q180 : x12_2 < (xa0_4.length : Int) := upA
                          obtain ⟨ad180, e180, hx180_0⟩ := Kd.at_int (Kd.R_reads' HO_a0.out).2.2 x12_2 p180 q180
                          cases e180
                          replace p180 := eq_true p180
                          replace q180 := eq_true q180
                          obtain ⟨Ao71, co71, eo71⟩ := Kd.S_slice HO_a1.out
                          (first | subst eo71 | (injection eo71 with f1_ f2_ f3_; have f4_ := f1_.symm; have f5_ := f3_.symm; clear f1_ f2_ f3_; subst f4_; subst f5_))
                          have p181 : 0 ≤ (x12_2 : Int) := upA
                          have q181 : x12_2 < (xa1_4.length : Int) := upA
                          obtain ⟨ad181, A181_0, c181_0, e181, hx181_0, hl181_0, hi181_0⟩ := at_L1 (Kd.S_reads' HO_a1.out).2.2 x12_2 p181 q181
                          cases e181
                          obtain ⟨ce181, hce181, hMe181, hcc181⟩ := Kd.S_get HO_a1.out [] x12_2 p181 (by first | exact q181 | exact upA | (have e_ := (Kd.S_reads' HO_a1.out).1; omega))
                          obtain ⟨ve181_0, rfl, ge181_0⟩ := hMe181
                          have hv181_0 := hcc181 0 _ rfl
                          rw [Nat.add_zero, show ((Kd.slice 3 (Kd.int .i64))).sz = 1 from rfl, Nat.mul_one] at hv181_0
                          replace hv181_0 := Option.some.inj (hv181_0.symm.trans hx181_0)
                          rw [hv181_0] at ge181_0
                          have HL181_0 := sA (show Kd.R (Kd.int .i64) 3 _ _ _ _ (rd_L1 xa1_4 x12_2) from ge181_0)
                          clear hv181_0 ge181_0
                          clear hcc181 hce181
                          have HR181_0 := sA hi181_0
                          have HC181_0 := sA hl181_0
                          clear hi181_0 hl181_0
                          replace p181 := eq_true p181
                          replace q181 := eq_true q181
                          have p182 : 0 ≤ (x13_3 : Int) := upA
                          have q182 : x13_3 < ((rd_L1 xa1_4 x12_2).length : Int) := upA
                          obtain ⟨ad182, e182, hx182_0⟩ := Kd.at_int (by repeat (first | (with_reducible exact HR181_0.out) | (with_reducible refine Kd.C_alloc ?_ _) | (with_reducible refine Kd.C_drewN ?_ _) | (with_reducible refine Kd.C_drew ?_) | exact HR181_0.out)) x13_3 p182 q182
                          cases e182
                          replace p182 := eq_true p182
                          replace q182 := eq_true q182
                          obtain ⟨Ao72, co72, eo72⟩ := Kd.R_slice HO_a2.out
                          (first | subst eo72 | (injection eo72 with f1_ f2_ f3_; have f4_ := f1_.symm; have f5_ := f3_.symm; clear f1_ f2_ f3_; subst f4_; subst f5_))
                          have p183 : 0 ≤ (x14_4 : Int) := upA
                          have q183 : x14_4 < (xa2_4.length : Int) := upA
                          obtain ⟨ad183, e183, hx183_0⟩ := Kd.at_int (Kd.R_reads' HO_a2.out).2.2 x14_4 p183 q183
                          cases e183
                          replace p183 := eq_true p183
                          replace q183 := eq_true q183
                          refine start_ (n := 20) (S := fun w' => w'.cell? ⟨gb168, 0, none⟩ = some (.slice (some ad180) xa0_4.length co70) ∧ w'.cell? ⟨gb168, 1, none⟩ = some (.slice (some ad181) xa1_4.length co71) ∧ w'.cell? ⟨gb168, 2, none⟩ = some (.slice (some ad183) xa2_4.length co72) ∧ w'.cell? (ad180.add (x12_2).toNat) = some (.int .i64 (rd xa0_4 x12_2)) ∧ w'.cell? (ad181.add (x12_2).toNat) = some (.slice (some ad182) (rd_L1 xa1_4 x12_2).length c181_0) ∧ w'.cell? (ad182.add (x13_3).toNat) = some (.int .i64 (rd (rd_L1 xa1_4 x12_2) x13_3)) ∧ w'.cell? (ad183.add (x14_4).toNat) = some (.int .i64 (rd xa2_4 x14_4))) (ds := []) #[false, false, false, false, false, false, false, false, false, false, false, false, false, false, false, false, false, false, false, false] (by kernel_rfl) rfl rfl ⟨(blk_cell BK168.out 0).trans rfl, (blk_cell BK168.out 1).trans rfl, (blk_cell BK168.out 2).trans rfl, hx180_0, hx181_0, hx182_0, hx183_0⟩ (fun hHeld => ?_); refine with_tabW kinkeepref35_Settle.tab23 kinkeepref35_Settle.bits23 (fun HT_ HW_ => ?_)
                          generalize wc.drew = w69 at HO_11 HO_a0 HO_a1 HO_a2 BK168 HB HL181_0 HR181_0 hx180_0 hx181_0 hx182_0 hx183_0 hHeld ⊢
                          refine pure_ (i := 0) (N := some 100) (v := ?_) (a' := ?_) #[true, false, false, false, false, false, false, false, false, false, false, false, false, false, false, false, false, false, false, false] rfl rfl (any_of HT_.out (by kernel_rfl)) (fun _ _ _ h => h) (Or.inl ⟨by rfl, ?_⟩) ?_ ?_
                          rotate_left
                          ·
                           intro w'
                           go_simp
                           with_reducible rfl
                          rotate_left
                          ·
                           simp only [Act.put, upL, i64_w, i32_w]
                           rfl
                          refine pure_ (i := 2) (N := some 102) (v := ?_) (a' := ?_) #[true, false, true, false, false, false, false, false, false, false, false, false, false, false, false, false, false, false, false, false] rfl rfl (any_of HT_.out (by kernel_rfl)) (fun _ _ _ h => h) (Or.inl ⟨by rfl, ?_⟩) ?_ ?_
                          rotate_left
                          ·
                           intro w'
                           go_simp
                           with_reducible rfl
                          rotate_left
                          ·
                           simp only [Act.put, upL, i64_w, i32_w]
                           rfl
                          refine pure_ (i := 5) (N := some 105) (v := ?_) (a' := ?_) #[true, false, true, false, false, true, false, false, false, false, false, false, false, false, false, false, false, false, false, false] rfl rfl (any_of HT_.out (by kernel_rfl)) (fun _ _ _ h => h) (Or.inl ⟨by rfl, ?_⟩) ?_ ?_
                          rotate_left
                          ·
                           intro w'
                           go_simp
                           with_reducible rfl
                          rotate_left
                          ·
                           simp only [Act.put, upL, i64_w, i32_w]
                           rfl
                          refine pure_ (i := 7) (N := some 107) (v := ?_) (a' := ?_) #[true, false, true, false, false, true, false, true, false, false, false, false, false, false, false, false, false, false, false, false] rfl rfl (any_of HT_.out (by kernel_rfl)) (fun _ _ _ h => h) (Or.inl ⟨by rfl, ?_⟩) ?_ ?_
                          rotate_left
                          ·
                           intro w'
                           go_simp
                           with_reducible rfl
                          rotate_left
                          ·
                           simp only [Act.put, upL, i64_w, i32_w]
                           rfl
                          refine pure_ (i := 10) (N := some 110) (v := ?_) (a' := ?_) #[true, false, true, false, false, true, false, true, false, false, true, false, false, false, false, false, false, false, false, false] rfl rfl (any_of HT_.out (by kernel_rfl)) (fun _ _ _ h => h) (Or.inl ⟨by rfl, ?_⟩) ?_ ?_
                          rotate_left
                          ·
                           intro w'
                           go_simp
                           with_reducible rfl
                          rotate_left
                          ·
                           simp only [Act.put, upL, i64_w, i32_w]
                           rfl
                          refine pure_ (i := 13) (N := some 113) (v := ?_) (a' := ?_) #[true, false, true, false, false, true, false, true, false, false, true, false, false, true, false, false, false, false, false, false] rfl rfl (any_of HT_.out (by kernel_rfl)) (fun _ _ _ h => h) (Or.inl ⟨by rfl, ?_⟩) ?_ ?_
                          rotate_left
                          ·
                           intro w'
                           go_simp
                           with_reducible rfl
                          rotate_left
                          ·
                           simp only [Act.put, upL, i64_w, i32_w]
                           rfl
                          refine pure_ (i := 15) (N := some 115) (v := ?_) (a' := ?_) #[true, false, true, false, false, true, false, true, false, false, true, false, false, true, false, true, false, false, false, false] rfl rfl (any_of HT_.out (by kernel_rfl)) (fun _ _ _ h => h) (Or.inl ⟨by rfl, ?_⟩) ?_ ?_
                          rotate_left
                          ·
                           intro w'
                           go_simp
                           with_reducible rfl
                          rotate_left
                          ·
                           simp only [Act.put, upL, i64_w, i32_w]
                           rfl
                          refine take_ (i := 1) (N := some 101) (v := ?_) (a' := ?_) #[true, true, true, false, false, true, false, true, false, false, true, false, false, true, false, true, false, false, false, false] rfl rfl (take_ofW HT_.out HW_.out (by kernel_rfl)) (fun _ _ _ h => h) (Or.inl ⟨by rfl, ?_⟩) hHeld ?_ ?_
                          rotate_left
                          ·
                           rintro w' ⟨s0, s1, s2, s3, s4, s5, s6⟩
                           go_simp
                           with_reducible rfl
                          rotate_left
                          ·
                           simp only [Act.put, upL, i64_w, i32_w]
                           rfl
                          refine pure_ (i := 3) (N := some 103) (v := ?_) (a' := ?_) #[true, true, true, true, false, true, false, true, false, false, true, false, false, true, false, true, false, false, false, false] rfl rfl (any_of HT_.out (by kernel_rfl)) (fun _ _ _ h => h) (Or.inl ⟨by rfl, ?_⟩) ?_ ?_
                          rotate_left
                          ·
                           intro w'
                           go_simp
                           with_reducible rfl
                          rotate_left
                          ·
                           simp only [Act.put, upL, i64_w, i32_w]
                           rfl
                          refine take_ (i := 4) (N := some 104) (v := ?_) (a' := ?_) #[true, true, true, true, true, true, false, true, false, false, true, false, false, true, false, true, false, false, false, false] rfl rfl (take_ofW HT_.out HW_.out (by kernel_rfl)) (fun _ _ _ h => h) (Or.inl ⟨by rfl, ?_⟩) hHeld ?_ ?_
                          rotate_left
                          ·
                           rintro w' ⟨s0, s1, s2, s3, s4, s5, s6⟩
                           go_simp
                           with_reducible rfl
                          rotate_left
                          ·
                           simp only [Act.put, upL, i64_w, i32_w]
                           rfl
                          refine take_ (i := 6) (N := some 106) (v := ?_) (a' := ?_) #[true, true, true, true, true, true, true, true, false, false, true, false, false, true, false, true, false, false, false, false] rfl rfl (take_ofW HT_.out HW_.out (by kernel_rfl)) (fun _ _ _ h => h) (Or.inl ⟨by rfl, ?_⟩) hHeld ?_ ?_
                          rotate_left
                          ·
                           rintro w' ⟨s0, s1, s2, s3, s4, s5, s6⟩
                           go_simp
                           with_reducible rfl
                          rotate_left
                          ·
                           simp only [Act.put, upL, i64_w, i32_w]
                           rfl
                          refine pure_ (i := 8) (N := some 108) (v := ?_) (a' := ?_) #[true, true, true, true, true, true, true, true, true, false, true, false, false, true, false, true, false, false, false, false] rfl rfl (any_of HT_.out (by kernel_rfl)) (fun _ _ _ h => h) (Or.inl ⟨by rfl, ?_⟩) ?_ ?_
                          rotate_left
                          ·
                           intro w'
                           go_simp
                           with_reducible rfl
                          rotate_left
                          ·
                           simp only [Act.put, upL, i64_w, i32_w]
                           rfl
                          refine take_ (i := 9) (N := some 109) (v := ?_) (a' := ?_) #[true, true, true, true, true, true, true, true, true, true, true, false, false, true, false, true, false, false, false, false] rfl rfl (take_ofW HT_.out HW_.out (by kernel_rfl)) (fun _ _ _ h => h) (Or.inl ⟨by rfl, ?_⟩) hHeld ?_ ?_
                          rotate_left
                          ·
                           rintro w' ⟨s0, s1, s2, s3, s4, s5, s6⟩
                           go_simp
                           with_reducible rfl
                          rotate_left
                          ·
                           simp only [Act.put, upL, i64_w, i32_w]
                           rfl
                          refine pure_ (i := 11) (N := some 111) (v := ?_) (a' := ?_) #[true, true, true, true, true, true, true, true, true, true, true, true, false, true, false, true, false, false, false, false] rfl rfl (any_of HT_.out (by kernel_rfl)) (fun _ _ _ h => h) (Or.inl ⟨by rfl, ?_⟩) ?_ ?_
                          rotate_left
                          ·
                           intro w'
                           go_simp
                           with_reducible rfl
                          rotate_left
                          ·
                           simp only [Act.put, upL, i64_w, i32_w]
                           rfl
                          refine take_ (i := 12) (N := some 112) (v := ?_) (a' := ?_) #[true, true, true, true, true, true, true, true, true, true, true, true, true, true, false, true, false, false, false, false] rfl rfl (take_ofW HT_.out HW_.out (by kernel_rfl)) (fun _ _ _ h => h) (Or.inl ⟨by rfl, ?_⟩) hHeld ?_ ?_
                          rotate_left
                          ·
                           rintro w' ⟨s0, s1, s2, s3, s4, s5, s6⟩
                           go_simp
                           with_reducible rfl
                          rotate_left
                          ·
                           simp only [Act.put, upL, i64_w, i32_w]
                           rfl
                          refine take_ (i := 14) (N := some 114) (v := ?_) (a' := ?_) #[true, true, true, true, true, true, true, true, true, true, true, true, true, true, true, true, false, false, false, false] rfl rfl (take_ofW HT_.out HW_.out (by kernel_rfl)) (fun _ _ _ h => h) (Or.inl ⟨by rfl, ?_⟩) hHeld ?_ ?_
                          rotate_left
                          ·
                           rintro w' ⟨s0, s1, s2, s3, s4, s5, s6⟩
                           go_simp
                           with_reducible rfl
                          rotate_left
                          ·
                           simp only [Act.put, upL, i64_w, i32_w]
                           rfl
                          refine pure_ (i := 16) (N := some 116) (v := ?_) (a' := ?_) #[true, true, true, true, true, true, true, true, true, true, true, true, true, true, true, true, true, false, false, false] rfl rfl (any_of HT_.out (by kernel_rfl)) (fun _ _ _ h => h) (Or.inl ⟨by rfl, ?_⟩) ?_ ?_
                          rotate_left
                          ·
                           intro w'
                           go_simp
                           with_reducible rfl
                          rotate_left
                          ·
                           simp only [Act.put, upL, i64_w, i32_w]
                           rfl
                          refine take_ (i := 17) (N := some 117) (v := ?_) (a' := ?_) #[true, true, true, true, true, true, true, true, true, true, true, true, true, true, true, true, true, true, false, false] rfl rfl (take_ofW HT_.out HW_.out (by kernel_rfl)) (fun _ _ _ h => h) (Or.inl ⟨by rfl, ?_⟩) hHeld ?_ ?_
                          rotate_left
                          ·
                           rintro w' ⟨s0, s1, s2, s3, s4, s5, s6⟩
                           go_simp
                           with_reducible rfl
                          rotate_left
                          ·
                           simp only [Act.put, upL, i64_w, i32_w]
                           rfl
                          refine pure_ (i := 18) (N := some 118) (v := ?_) (a' := ?_) #[true, true, true, true, true, true, true, true, true, true, true, true, true, true, true, true, true, true, true, false] rfl rfl (any_of HT_.out (by kernel_rfl)) (fun _ _ _ h => h) (Or.inl ⟨by rfl, ?_⟩) ?_ ?_
                          rotate_left
                          ·
                           intro w'
                           go_simp
                           with_reducible rfl
                          rotate_left
                          ·
                           simp only [Act.put, upL, i64_w, i32_w]
                           rfl
                          refine pure_ (i := 19) (N := some 15) (v := ?_) (a' := ?_) #[true, true, true, true, true, true, true, true, true, true, true, true, true, true, true, true, true, true, true, true] rfl rfl (any_of HT_.out (by kernel_rfl)) (fun _ _ _ h => h) (Or.inl ⟨by rfl, ?_⟩) ?_ ?_
                          rotate_left
                          ·
                           intro w'
                           go_simp
                           with_reducible rfl
                          rotate_left
                          ·
                           simp only [Act.put, upL, i64_w, i32_w]
                           rfl
                          refine done_ (done_of HT_.out (by kernel_rfl)) ?_
                          try go_wp2
                          go_loopg [15] kj55 (fun kq v15 w' => ∃ (x15_6 : Int), v15 = .int .i64 x15_6 ∧ Aside0 (kinkeepref35_Settle.l4 kq (l0.length : Int) x9_4 x11_4 x12_2 x13_3 x14_4 x15_6 xa0_4 xa1_4 xa2_4 = some (r1, r2)) ∧ Aside0 (kq ≤ kj55) ∧ Aside0 (Kd.R k24 24 w' w.heap.size (fun _ => True) u11 x11_4) ∧ Aside0 (Kd.R (Kd.int .i64) 3 w' w.heap.size (fun k_ => some k_ ≠ ((.slice (some ad183) xa2_4.length co72) : Value).ownBlock) (.slice (some ad180) xa0_4.length co70) xa0_4) ∧ Aside0 (Kd.S (Kd.slice 3 (Kd.int .i64)) 31 w' w.heap.size (fun k_ => some k_ ≠ ((.slice (some ad180) xa0_4.length co70) : Value).ownBlock ∧ some k_ ≠ ((.slice (some ad183) xa2_4.length co72) : Value).ownBlock) (.slice (some ad181) xa1_4.length co71) xa1_4) ∧ Aside0 (Kd.R (Kd.int .i64) 3 w' w.heap.size (fun k_ => some k_ ≠ ((.slice (some ad180) xa0_4.length co70) : Value).ownBlock) (.slice (some ad183) xa2_4.length co72) xa2_4) ∧ Aside0 (w'.heap[gb168]? = some (.cells #[(.slice (some ad180) xa0_4.length co70), (.slice (some ad181) xa1_4.length co71), (.slice (some ad183) xa2_4.length co72)] 75 (0, 0))) ∧ Aside0 (Kd.C (Kd.int .i64) w' (some ad182) (rd_L1 xa1_4 x12_2).length (rd_L1 xa1_4 x12_2)) ∧ Aside0 (Below w.heap.size w w'))
                          case atStart => exact ⟨(ji68), (by first | rfl | (simp; done) | (simp only [← hji68] <;> (first | rfl | simp)) | (simp [*]; done)), H', ⟨Nat.le_refl _⟩, ⟨upR HO_11.out⟩, ⟨upR HO_a0.out⟩, ⟨upS HO_a1.out⟩, ⟨upR HO_a2.out⟩, ⟨by (with_reducible repeat (first | refine blk_drewN ?_ _ | refine blk_drew ?_ | refine blk_alloc ?_ _)); exact BK168.out⟩, ⟨by repeat (first | (with_reducible exact HR181_0.out) | (with_reducible refine Kd.C_alloc ?_ _) | (with_reducible refine Kd.C_drewN ?_ _) | (with_reducible refine Kd.C_drew ?_) | exact HR181_0.out)⟩, ⟨upB HB.out GE168.out⟩⟩
                          case round =>
                           clear H'
                           try clear c1
                           try clear p1
                           try clear q1
                           try clear hx1
                           try clear c2
                           try clear p2
                           try clear c3
                           try clear p3
                           try clear q3
                           try clear hx3
                           try clear hf3
                           try clear c4
                           try clear c5
                           try clear c6
                           try clear p6
                           try clear p16
                           try clear q16
                           try clear hx16
                           try clear p17
                           try clear q17
                           try clear hx17
                           try clear c18
                           try clear p18
                           try clear q18
                           try clear hx18
                           try clear c25
                           try clear c25b0
                           try clear c26
                           try clear c26b0
                           try clear c27
                           try clear c27b0
                           try clear c28
                           try clear c28b0
                           try clear c31
                           try clear c31b0
                           try clear p32
                           try clear q32
                           try clear hx32
                           try clear hf32
                           try clear c33
                           try clear c33b0
                           try clear p34
                           try clear q34
                           try clear hx34
                           try clear hf34
                           try clear p35
                           try clear q35
                           try clear c42
                           try clear c42b0
                           try clear c53
                           try clear c53b0
                           try clear c54
                           try clear c54b0
                           try clear c55
                           try clear c55b0
                           try clear c56
                           try clear c57
                           try clear c57b0
                           try clear c57b1
                           try clear c58
                           try clear c58b0
                           try clear c58b1
                           try clear c59
                           try clear c60
                           try clear c60b0
                           try clear c61
                           try clear c61b0
                           try clear c62
                           try clear c62b0
                           try clear c63
                           try clear c63b0
                           try clear c64
                           try clear c64b0
                           try clear p64
                           try clear c65
                           try clear c65b0
                           try clear c66
                           try clear c66b0
                           try clear hcz40_0
                           try clear hcz40_1
                           try clear hcz40_2
                           try clear hcz43_0
                           try clear hcz43_1
                           try clear hcz43_2
                           try clear hcz47_0
                           try clear hcz47_1
                           try clear hcz47_2
                           try clear hfz40_0
                           try clear hfz40_1
                           try clear hfz40_2
                           try clear hfz43_0
                           try clear hfz43_1
                           try clear hfz43_2
                           try clear hfz47_0
                           try clear hfz47_1
                           try clear hfz47_2
                           try clear hx169_0
                           try clear hx170_0
                           try clear hx171_0
                           try clear hx172_0
                           try clear hx180_0
                           try clear hx181_0
                           try clear hx182_0
                           try clear hx183_0
                           try clear hx32_0
                           try clear hx34_0
                           try clear p1
                           try clear p16
                           try clear p169
                           try clear p17
                           try clear p170
                           try clear p171
                           try clear p172
                           try clear p180
                           try clear p181
                           try clear p182
                           try clear p183
                           try clear p2
                           try clear p3
                           try clear p32
                           try clear p34
                           try clear p35
                           try clear p6
                           try clear q1
                           try clear q16
                           try clear q169
                           try clear q17
                           try clear q170
                           try clear q171
                           try clear q172
                           try clear q180
                           try clear q181
                           try clear q182
                           try clear q183
                           try clear q3
                           try clear q32
                           try clear q34
                           try clear q35
                           obtain ⟨x15_6, rfl, HA, HK6, HO_11, HO_a0, HO_a1, HO_a2, BK168, HR181_0, HB⟩ := hrel
                           cases gk with
                           | zero => exact absurd HA.out (by simp [kinkeepref35_Settle.l4])
                           | succ k6 =>
                            have H := HA.out
                            clear HA
                            simp only [kinkeepref35_Settle.l4] at H
                            by_cases c73 : x15_6 > 0
                            ·
                             rw [if_pos c73] at H
                             have c73b0 : decide (0 < x15_6) = true := decide_eq_true c73
                             clear c73
                             replace H := Option.bind_eq_some_iff.mp H
                             obtain ⟨⟨t184, t187, t190⟩, A740, H⟩ := H
                             replace H : ((kinkeepref35_relief_flow.f k6 t184 t187 t190).bind fun t193 => (if t193 < (wrap64 (x9_4 - x15_6)) then (kinkeepref35_Settle.l4 k6 (l0.length : Int) x9_4 x11_4 x12_2 x13_3 x14_4 (wrap64 (x15_6 - 1)) xa0_4 xa1_4 xa2_4) else ((kinkeepref35_relief_moved.f k6 xa0_4 xa1_4 xa2_4 x12_2 x13_3 x14_4 x15_6).bind fun bt194 => (if x11_4.length < 4398046511104 then (kinkeepref35_Settle.l3 k6 (l0.length : Int) (wrap64 (x9_4 - x15_6)) (x11_4 ++ [(⟨x12_2, x14_4, x13_3, x15_6⟩ : S24)]) x12_2 x13_3 (wrap64 (x14_4 + 1)) bt194.1 bt194.2.1 bt194.2.2) else (none))))) = some (r1, r2) := H
                             have A74 := sA A740
                             clear A740
                             replace H := Option.bind_eq_some_iff.mp H
                             obtain ⟨t193, A750, H⟩ := H
                             replace H : (if t193 < (wrap64 (x9_4 - x15_6)) then (kinkeepref35_Settle.l4 k6 (l0.length : Int) x9_4 x11_4 x12_2 x13_3 x14_4 (wrap64 (x15_6 - 1)) xa0_4 xa1_4 xa2_4) else ((kinkeepref35_relief_moved.f k6 xa0_4 xa1_4 xa2_4 x12_2 x13_3 x14_4 x15_6).bind fun bt194 => (if x11_4.length < 4398046511104 then (kinkeepref35_Settle.l3 k6 (l0.length : Int) (wrap64 (x9_4 - x15_6)) (x11_4 ++ [(⟨x12_2, x14_4, x13_3, x15_6⟩ : S24)]) x12_2 x13_3 (wrap64 (x14_4 + 1)) bt194.1 bt194.2.1 bt194.2.2) else (none)))) = some (r1, r2) := H
                             have A75 := sA A750
                             clear A750
                             by_cases c76 : t193 < (wrap64 (x9_4 - x15_6))
                             ·
                              rw [if_pos c76] at H
                              have c76b0 : decide (t193 < (wrap64 (x9_4 - x15_6))) = true := decide_eq_true c76
                              clear c76
                              have H' := sA H
                              clear H
                              have hcz77_0 : wr.cell? ⟨gb168, 0, none⟩ = some (.slice (some ad180) xa0_4.length co70) := (blk_cell BK168.out 0).trans rfl
                              have hcz77_1 : wr.cell? ⟨gb168, 1, none⟩ = some (.slice (some ad181) xa1_4.length co71) := (blk_cell BK168.out 1).trans rfl
                              have hcz77_2 : wr.cell? ⟨gb168, 2, none⟩ = some (.slice (some ad183) xa2_4.length co72) := (blk_cell BK168.out 2).trans rfl
                              have hfz77_0 := blk_frozen BK168.out 0
                              have hfz77_1 := blk_frozen BK168.out 1
                              have hfz77_2 := blk_frozen BK168.out 2
                              go_wp2_with (first | (go_at_call 57; (with_reducible refine (kinkeepref35_relief_moved.calls k6 _ _ xa0_4 _ _ xa1_4 _ _ xa2_4 x12_2 x13_3 x14_4 x15_6 t184 t187 t190 _ ?side1 ?side2 ?side3 ?side4 ?side5 ?side6 A74.out).mono ?_); (case side1 => exact upX (Kd.R_reads' HO_a0.out).2.2); (case side2 => exact (Kd.R_reads' HO_a0.out).2.1); (case side3 => exact upX (Kd.S_reads' HO_a1.out).2.2); (case side4 => exact (Kd.S_reads' HO_a1.out).2.1); (case side5 => exact upX (Kd.R_reads' HO_a2.out).2.2); (case side6 => exact (Kd.R_reads' HO_a2.out).2.1); rintro e w78 ⟨v185, v188, v191, rfl, ho0, ho1, ho2, hb⟩; have n0_ := sA (Kd.R_below (upR HO_11.out) hb); have n1_ := sA (Kd.R_mono (Kd.R_told (Kd.R_told (Kd.R_old (upR HO_a0.out) hb) (Kd.R_base ho0)) (Kd.R_base ho2)) (fun _ h_ => h_.1)); have n2_ := sA (Kd.S_mono (Kd.S_told (Kd.S_told (Kd.S_told (Kd.S_old (upS HO_a1.out) hb) (Kd.R_base ho0)) (Kd.S_base ho1)) (Kd.R_base ho2)) (fun _ h_ => h_.1)); have n3_ := sA (Kd.R_mono (Kd.R_told (Kd.R_told (Kd.R_old (upR HO_a2.out) hb) (Kd.R_base ho0)) (Kd.R_base ho2)) (fun _ h_ => h_.1)); have n4_ := sA (Kd.R_lower (Kd.R_new' (Kd.R_new' ho0 (Kd.R_lt (upR HO_a0.out))) (Kd.R_lt (upR HO_a2.out))) (below_size (upB HB.out GE168.out))); have n5_ := sA (Kd.S_lower (Kd.S_new' (Kd.S_new' (Kd.S_new' ho1 (Kd.R_lt (upR HO_a0.out))) (Kd.S_lt (upS HO_a1.out))) (Kd.R_lt (upR HO_a2.out))) (below_size (upB HB.out GE168.out))); have n6_ := sA (Kd.R_lower (Kd.R_new' (Kd.R_new' ho2 (Kd.R_lt (upR HO_a0.out))) (Kd.R_lt (upR HO_a2.out))) (below_size (upB HB.out GE168.out))); have n7_ := sA (blk_below (g := gb168) (upK BK168.out) hb); have n8_ := sA (Kd.C_below (by repeat (first | (with_reducible exact HR181_0.out) | (with_reducible refine Kd.C_alloc ?_ _) | (with_reducible refine Kd.C_drewN ?_ _) | (with_reducible refine Kd.C_drew ?_) | exact HR181_0.out)) hb); have n9_ := sA (below_step (upB HB.out GE168.out) hb); clear HO_11; clear HO_a0; clear HO_a1; clear HO_a2; clear BK168; clear HR181_0; clear HB; have HO_11 := n0_; have HO_a0 := n1_; have HO_a1 := n2_; have HO_a2 := n3_; have HO186 := n4_; have HO189 := n5_; have HO192 := n6_; have BK168 := n7_; have HR181_0 := n8_; have HB := n9_; clear n0_ n1_ n2_ n3_ n4_ n5_ n6_ n7_ n8_ n9_; (try clear hb); (try clear hb2); (try clear hk); (try clear hi); (try clear ho0); (try clear ho1); (try clear ho2); obtain ⟨Ao79, co79, eo79⟩ := Kd.R_slice HO186.out; subst eo79; obtain ⟨Ao80, co80, eo80⟩ := Kd.S_slice HO189.out; subst eo80; obtain ⟨Ao81, co81, eo81⟩ := Kd.R_slice HO192.out; subst eo81) | (go_at_call 56; (with_reducible refine (kinkeepref35_relief_flow.calls k6 _ _ t184 _ _ t187 _ _ t190 t193 _ ?side1 ?side2 ?side3 ?side4 ?side5 ?side6 A75.out).mono ?_); (case side1 => exact upX (Kd.R_reads' HO186.out).2.2); (case side2 => exact (Kd.R_reads' HO186.out).2.1); (case side3 => exact upX (Kd.S_reads' HO189.out).2.2); (case side4 => exact (Kd.S_reads' HO189.out).2.1); (case side5 => exact upX (Kd.R_reads' HO192.out).2.2); (case side6 => exact (Kd.R_reads' HO192.out).2.1); rintro e w82 ⟨rfl, hb⟩; have n0_ := sA (Kd.R_below (upR HO_11.out) hb); have n1_ := sA (Kd.R_below (upR HO_a0.out) hb); have n2_ := sA (Kd.S_below (upS HO_a1.out) hb); have n3_ := sA (Kd.R_below (upR HO_a2.out) hb); have n4_ := sA (Kd.R_below (upR HO186.out) hb); have n5_ := sA (Kd.S_below (upS HO189.out) hb); have n6_ := sA (Kd.R_below (upR HO192.out) hb); have n7_ := sA (blk_below (g := gb168) (upK BK168.out) hb); have n8_ := sA (Kd.C_below (by repeat (first | (with_reducible exact HR181_0.out) | (with_reducible refine Kd.C_alloc ?_ _) | (with_reducible refine Kd.C_drewN ?_ _) | (with_reducible refine Kd.C_drew ?_) | exact HR181_0.out)) hb); have n9_ := sA (below_step (upB HB.out GE168.out) hb); clear HO_11; clear HO_a0; clear HO_a1; clear HO_a2; clear HO186; clear HO189; clear HO192; clear BK168; clear HR181_0; clear HB; have HO_11 := n0_; have HO_a0 := n1_; have HO_a1 := n2_; have HO_a2 := n3_; have HO186 := n4_; have HO189 := n5_; have HO192 := n6_; have BK168 := n7_; have HR181_0 := n8_; have HB := n9_; clear n0_ n1_ n2_ n3_ n4_ n5_ n6_ n7_ n8_ n9_; (try clear hb); (try clear hb2); (try clear hk); (try clear hi)))
                              go_roundg k6
                              case measure => have := HK1.out; have := HK2.out; have := HK3.out; have := HK4.out; have := HJ55.out; have := HK6.out; omega
                              case rel => exact ⟨(wrap64 (x15_6 - 1)), (upE), H', ⟨by have := HK1.out; have := HK2.out; have := HK3.out; have := HK4.out; have := HJ55.out; have := HK6.out; omega⟩, ⟨upR HO_11.out⟩, ⟨by (with_reducible repeat (first | apply Kd.R_alloc | apply Kd.R_drewN | apply Kd.R_drew)); exact Kd.R_mono HO_a0.out (fun _ hk => hk.1.1)⟩, ⟨by (with_reducible repeat (first | apply Kd.S_alloc | apply Kd.S_drewN | apply Kd.S_drew)); exact Kd.S_mono HO_a1.out (fun _ hk => ⟨hk.1.1.1.1, hk.1.1.1.2⟩)⟩, ⟨by (with_reducible repeat (first | apply Kd.R_alloc | apply Kd.R_drewN | apply Kd.R_drew)); exact Kd.R_mono HO_a2.out (fun _ hk => hk.1.1)⟩, ⟨by (with_reducible repeat (first | refine blk_drewN ?_ _ | refine blk_drew ?_ | refine blk_alloc ?_ _)); exact BK168.out⟩, ⟨by repeat (first | (with_reducible exact HR181_0.out) | (with_reducible refine Kd.C_alloc ?_ _) | (with_reducible refine Kd.C_drewN ?_ _) | (with_reducible refine Kd.C_drew ?_) | exact HR181_0.out)⟩, ⟨upB HB.out GE168.out⟩⟩
                             ·
                              rw [if_neg c76] at H
                              have c76b0 : decide (t193 < (wrap64 (x9_4 - x15_6))) = false := decide_eq_false c76
                              clear c76
                              replace H := Option.bind_eq_some_iff.mp H
                              obtain ⟨⟨t194, t197, t200⟩, A830, H⟩ := H
                              replace H : (if x11_4.length < 4398046511104 then (kinkeepref35_Settle.l3 k6 (l0.length : Int) (wrap64 (x9_4 - x15_6)) (x11_4 ++ [(⟨x12_2, x14_4, x13_3, x15_6⟩ : S24)]) x12_2 x13_3 (wrap64 (x14_4 + 1)) t194 t197 t200) else (none)) = some (r1, r2) := H
                              have A83 := sA A830
                              clear A830
                              by_cases c84 : x11_4.length < 4398046511104
                              ·
                               rw [if_pos c84] at H
                               have LMc84 := sA c84
                               clear c84
                               obtain ⟨y203, hy203⟩ : ∃ y_ : List (S24), y_ = (x11_4 ++ [(⟨x12_2, x14_4, x13_3, x15_6⟩ : S24)]) := ⟨_, rfl⟩
                               replace H : (kinkeepref35_Settle.l3 k6 (l0.length : Int) (wrap64 (x9_4 - x15_6)) y203 x12_2 x13_3 (wrap64 (x14_4 + 1)) t194 t197 t200) = some (r1, r2) := by first | (rw [hy203]; with_reducible exact H) | (have H2_ := (Option.bind_some _ _).symm.trans H; rw [hy203]; with_reducible exact H2_) | (have H2_ := (Option.bind_some _ _).symm.trans H; with_reducible exact H2_) | with_reducible exact H | (rw [hy203]; exact H) | exact H
                               have Ny203 := sA hy203
                               clear hy203
                               have H' := sA H
                               clear H
                               have hcz85_0 : wr.cell? ⟨gb168, 0, none⟩ = some (.slice (some ad180) xa0_4.length co70) := (blk_cell BK168.out 0).trans rfl
                               have hcz85_1 : wr.cell? ⟨gb168, 1, none⟩ = some (.slice (some ad181) xa1_4.length co71) := (blk_cell BK168.out 1).trans rfl
                               have hcz85_2 : wr.cell? ⟨gb168, 2, none⟩ = some (.slice (some ad183) xa2_4.length co72) := (blk_cell BK168.out 2).trans rfl
                               have hfz85_0 := blk_frozen BK168.out 0
                               have hfz85_1 := blk_frozen BK168.out 1
                               have hfz85_2 := blk_frozen BK168.out 2
                               go_wp2_with (first | (go_at_call 57; (with_reducible refine (kinkeepref35_relief_moved.calls k6 _ _ xa0_4 _ _ xa1_4 _ _ xa2_4 x12_2 x13_3 x14_4 x15_6 t184 t187 t190 _ ?side1 ?side2 ?side3 ?side4 ?side5 ?side6 A74.out).mono ?_); (case side1 => exact upX (Kd.R_reads' HO_a0.out).2.2); (case side2 => exact (Kd.R_reads' HO_a0.out).2.1); (case side3 => exact upX (Kd.S_reads' HO_a1.out).2.2); (case side4 => exact (Kd.S_reads' HO_a1.out).2.1); (case side5 => exact upX (Kd.R_reads' HO_a2.out).2.2); (case side6 => exact (Kd.R_reads' HO_a2.out).2.1); rintro e w86 ⟨v185, v188, v191, rfl, ho0, ho1, ho2, hb⟩; have n0_ := sA (Kd.R_below (upR HO_11.out) hb); have n1_ := sA (Kd.R_mono (Kd.R_told (Kd.R_told (Kd.R_old (upR HO_a0.out) hb) (Kd.R_base ho0)) (Kd.R_base ho2)) (fun _ h_ => h_.1)); have n2_ := sA (Kd.S_mono (Kd.S_told (Kd.S_told (Kd.S_told (Kd.S_old (upS HO_a1.out) hb) (Kd.R_base ho0)) (Kd.S_base ho1)) (Kd.R_base ho2)) (fun _ h_ => h_.1)); have n3_ := sA (Kd.R_mono (Kd.R_told (Kd.R_told (Kd.R_old (upR HO_a2.out) hb) (Kd.R_base ho0)) (Kd.R_base ho2)) (fun _ h_ => h_.1)); have n4_ := sA (Kd.R_lower (Kd.R_new' (Kd.R_new' ho0 (Kd.R_lt (upR HO_a0.out))) (Kd.R_lt (upR HO_a2.out))) (below_size (upB HB.out GE168.out))); have n5_ := sA (Kd.S_lower (Kd.S_new' (Kd.S_new' (Kd.S_new' ho1 (Kd.R_lt (upR HO_a0.out))) (Kd.S_lt (upS HO_a1.out))) (Kd.R_lt (upR HO_a2.out))) (below_size (upB HB.out GE168.out))); have n6_ := sA (Kd.R_lower (Kd.R_new' (Kd.R_new' ho2 (Kd.R_lt (upR HO_a0.out))) (Kd.R_lt (upR HO_a2.out))) (below_size (upB HB.out GE168.out))); have n7_ := sA (blk_below (g := gb168) (upK BK168.out) hb); have n8_ := sA (Kd.C_below (by repeat (first | (with_reducible exact HR181_0.out) | (with_reducible refine Kd.C_alloc ?_ _) | (with_reducible refine Kd.C_drewN ?_ _) | (with_reducible refine Kd.C_drew ?_) | exact HR181_0.out)) hb); have n9_ := sA (below_step (upB HB.out GE168.out) hb); clear HO_11; clear HO_a0; clear HO_a1; clear HO_a2; clear BK168; clear HR181_0; clear HB; have HO_11 := n0_; have HO_a0 := n1_; have HO_a1 := n2_; have HO_a2 := n3_; have HO186 := n4_; have HO189 := n5_; have HO192 := n6_; have BK168 := n7_; have HR181_0 := n8_; have HB := n9_; clear n0_ n1_ n2_ n3_ n4_ n5_ n6_ n7_ n8_ n9_; (try clear hb); (try clear hb2); (try clear hk); (try clear hi); (try clear ho0); (try clear ho1); (try clear ho2); obtain ⟨Ao87, co87, eo87⟩ := Kd.R_slice HO186.out; subst eo87; obtain ⟨Ao88, co88, eo88⟩ := Kd.S_slice HO189.out; subst eo88; obtain ⟨Ao89, co89, eo89⟩ := Kd.R_slice HO192.out; subst eo89) | (go_at_call 56; (with_reducible refine (kinkeepref35_relief_flow.calls k6 _ _ t184 _ _ t187 _ _ t190 t193 _ ?side1 ?side2 ?side3 ?side4 ?side5 ?side6 A75.out).mono ?_); (case side1 => exact upX (Kd.R_reads' HO186.out).2.2); (case side2 => exact (Kd.R_reads' HO186.out).2.1); (case side3 => exact upX (Kd.S_reads' HO189.out).2.2); (case side4 => exact (Kd.S_reads' HO189.out).2.1); (case side5 => exact upX (Kd.R_reads' HO192.out).2.2); (case side6 => exact (Kd.R_reads' HO192.out).2.1); rintro e w90 ⟨rfl, hb⟩; have n0_ := sA (Kd.R_below (upR HO_11.out) hb); have n1_ := sA (Kd.R_below (upR HO_a0.out) hb); have n2_ := sA (Kd.S_below (upS HO_a1.out) hb); have n3_ := sA (Kd.R_below (upR HO_a2.out) hb); have n4_ := sA (Kd.R_below (upR HO186.out) hb); have n5_ := sA (Kd.S_below (upS HO189.out) hb); have n6_ := sA (Kd.R_below (upR HO192.out) hb); have n7_ := sA (blk_below (g := gb168) (upK BK168.out) hb); have n8_ := sA (Kd.C_below (by repeat (first | (with_reducible exact HR181_0.out) | (with_reducible refine Kd.C_alloc ?_ _) | (with_reducible refine Kd.C_drewN ?_ _) | (with_reducible refine Kd.C_drew ?_) | exact HR181_0.out)) hb); have n9_ := sA (below_step (upB HB.out GE168.out) hb); clear HO_11; clear HO_a0; clear HO_a1; clear HO_a2; clear HO186; clear HO189; clear HO192; clear BK168; clear HR181_0; clear HB; have HO_11 := n0_; have HO_a0 := n1_; have HO_a1 := n2_; have HO_a2 := n3_; have HO186 := n4_; have HO189 := n5_; have HO192 := n6_; have BK168 := n7_; have HR181_0 := n8_; have HB := n9_; clear n0_ n1_ n2_ n3_ n4_ n5_ n6_ n7_ n8_ n9_; (try clear hb); (try clear hb2); (try clear hk); (try clear hi); have hcz91_0 : w90.cell? ⟨gb168, 0, none⟩ = some (.slice (some ad180) xa0_4.length co70) := (blk_cell BK168.out 0).trans rfl; have hcz91_1 : w90.cell? ⟨gb168, 1, none⟩ = some (.slice (some ad181) xa1_4.length co71) := (blk_cell BK168.out 1).trans rfl; have hcz91_2 : w90.cell? ⟨gb168, 2, none⟩ = some (.slice (some ad183) xa2_4.length co72) := (blk_cell BK168.out 2).trans rfl; have hfz91_0 := blk_frozen BK168.out 0; have hfz91_1 := blk_frozen BK168.out 1; have hfz91_2 := blk_frozen BK168.out 2) | ((with_reducible refine gate_callee (f := 57) rfl ?_); refine goesL_ (some 143) rfl rfl Try.func57 (by kernel_rfl) rfl #[.agg #[.slice (some ad180) xa0_4.length co70, .slice (some ad181) xa1_4.length co71, .slice (some ad183) xa2_4.length co72], .int .i64 x12_2, .int .i64 x13_3, .int .i64 x14_4, .int .i64 x15_6] rfl upM ?_; (with_reducible refine (kinkeepref35_relief_moved.calls k6 _ _ xa0_4 _ _ xa1_4 _ _ xa2_4 x12_2 x13_3 x14_4 x15_6 t194 t197 t200 _ ?side1 ?side2 ?side3 ?side4 ?side5 ?side6 A83.out).mono ?_); (case side1 => exact upX (Kd.R_reads' HO_a0.out).2.2); (case side2 => exact (Kd.R_reads' HO_a0.out).2.1); (case side3 => exact upX (Kd.S_reads' HO_a1.out).2.2); (case side4 => exact (Kd.S_reads' HO_a1.out).2.1); (case side5 => exact upX (Kd.R_reads' HO_a2.out).2.2); (case side6 => exact (Kd.R_reads' HO_a2.out).2.1); rintro e w92 ⟨v195, v198, v201, rfl, ho0, ho1, ho2, hb⟩; refine ⟨_, rfl, ?_⟩; have n0_ := sA (Kd.R_below (upR HO_11.out) hb); have n1_ := sA (Kd.R_mono (Kd.R_told (Kd.R_told (Kd.R_old (upR HO_a0.out) hb) (Kd.R_base ho0)) (Kd.R_base ho2)) (fun _ h_ => h_.1)); have n2_ := sA (Kd.S_mono (Kd.S_told (Kd.S_told (Kd.S_told (Kd.S_old (upS HO_a1.out) hb) (Kd.R_base ho0)) (Kd.S_base ho1)) (Kd.R_base ho2)) (fun _ h_ => h_.1)); have n3_ := sA (Kd.R_mono (Kd.R_told (Kd.R_told (Kd.R_old (upR HO_a2.out) hb) (Kd.R_base ho0)) (Kd.R_base ho2)) (fun _ h_ => h_.1)); have n4_ := sA (Kd.R_mono (Kd.R_told (Kd.R_told (Kd.R_old (upR HO186.out) hb) (Kd.R_base ho0)) (Kd.R_base ho2)) (fun _ h_ => h_.1)); have n5_ := sA (Kd.S_mono (Kd.S_told (Kd.S_told (Kd.S_told (Kd.S_old (upS HO189.out) hb) (Kd.R_base ho0)) (Kd.S_base ho1)) (Kd.R_base ho2)) (fun _ h_ => h_.1)); have n6_ := sA (Kd.R_mono (Kd.R_told (Kd.R_told (Kd.R_old (upR HO192.out) hb) (Kd.R_base ho0)) (Kd.R_base ho2)) (fun _ h_ => h_.1)); have n7_ := sA (Kd.R_lower (Kd.R_new' (Kd.R_new' (Kd.R_new' (Kd.R_new' ho0 (Kd.R_lt (upR HO_a0.out))) (Kd.R_lt (upR HO_a2.out))) (Kd.R_lt (upR HO186.out))) (Kd.R_lt (upR HO192.out))) (below_size (upB HB.out GE168.out))); have n8_ := sA (Kd.S_lower (Kd.S_new' (Kd.S_new' (Kd.S_new' (Kd.S_new' (Kd.S_new' (Kd.S_new' ho1 (Kd.R_lt (upR HO_a0.out))) (Kd.S_lt (upS HO_a1.out))) (Kd.R_lt (upR HO_a2.out))) (Kd.R_lt (upR HO186.out))) (Kd.S_lt (upS HO189.out))) (Kd.R_lt (upR HO192.out))) (below_size (upB HB.out GE168.out))); have n9_ := sA (Kd.R_lower (Kd.R_new' (Kd.R_new' (Kd.R_new' (Kd.R_new' ho2 (Kd.R_lt (upR HO_a0.out))) (Kd.R_lt (upR HO_a2.out))) (Kd.R_lt (upR HO186.out))) (Kd.R_lt (upR HO192.out))) (below_size (upB HB.out GE168.out))); have n10_ := sA (blk_below (g := gb168) (upK BK168.out) hb); have n11_ := sA (Kd.C_below (by repeat (first | (with_reducible exact HR181_0.out) | (with_reducible refine Kd.C_alloc ?_ _) | (with_reducible refine Kd.C_drewN ?_ _) | (with_reducible refine Kd.C_drew ?_) | exact HR181_0.out)) hb); have n12_ := sA (below_step (upB HB.out GE168.out) hb); clear HO_11; clear HO_a0; clear HO_a1; clear HO_a2; clear HO186; clear HO189; clear HO192; clear BK168; clear HR181_0; clear HB; have HO_11 := n0_; have HO_a0 := n1_; have HO_a1 := n2_; have HO_a2 := n3_; have HO186 := n4_; have HO189 := n5_; have HO192 := n6_; have HO196 := n7_; have HO199 := n8_; have HO202 := n9_; have BK168 := n10_; have HR181_0 := n11_; have HB := n12_; clear n0_ n1_ n2_ n3_ n4_ n5_ n6_ n7_ n8_ n9_ n10_ n11_ n12_; (try clear hb); (try clear hb2); (try clear hk); (try clear hi); (try clear ho0); (try clear ho1); (try clear ho2); obtain ⟨Ao93, co93, eo93⟩ := Kd.R_slice HO196.out; subst eo93; have hcz94_0 : w92.cell? ⟨gb168, 0, none⟩ = some (.slice (some ad180) xa0_4.length co70) := (blk_cell BK168.out 0).trans rfl; have hcz94_1 : w92.cell? ⟨gb168, 1, none⟩ = some (.slice (some ad181) xa1_4.length co71) := (blk_cell BK168.out 1).trans rfl; have hcz94_2 : w92.cell? ⟨gb168, 2, none⟩ = some (.slice (some ad183) xa2_4.length co72) := (blk_cell BK168.out 2).trans rfl; have hfz94_0 := blk_frozen BK168.out 0; have hfz94_1 := blk_frozen BK168.out 1; have hfz94_2 := blk_frozen BK168.out 2; obtain ⟨Ao95, co95, eo95⟩ := Kd.S_slice HO199.out; subst eo95; obtain ⟨Ao96, co96, eo96⟩ := Kd.R_slice HO202.out; subst eo96) | ((with_reducible refine gate_builtin (b := .append) (xs := #[.tmp 147, .tmp 153]) rfl ?_); at_builtin; refine Kd.R_append k24 (w0 := w) w.heap.size rfl (.tmp 147) (.tmp 153) 48 24 (.agg #[(.int .i64 0), (.int .i64 0), (.int .i64 0), (.int .i64 0)]) 32 rfl Try.underlying48 info24 rfl (by decide) (by omega) u11 x11_4 (⟨x12_2, x14_4, x13_3, x15_6⟩ : S24) [.int .i64 x12_2, .int .i64 x14_4, .int .i64 x13_3, .int .i64 x15_6] (fun _ => True) (fun _ => False) rfl (by first | (go_simp; done) | (go_simp; rfl)) ?aP (fun _ hk => hk.elim) ?aF ?aO ?aB ?aS ?aL ?_; (case aP => exact k24_mkM _ _ _ (⟨x12_2, x14_4, x13_3, x15_6⟩ : S24)); (case aB => exact (upB HB.out GE168.out)); (case aF => exact (fun _ _ => trivial)); (case aO => exact (by (with_reducible repeat (first | apply Kd.R_alloc | apply Kd.R_drewN | apply Kd.R_drew)); exact Kd.R_mono (Kd.R_far (p := ⟨gb168, 2, none⟩) (Kd.R_far (p := ⟨gb168, 1, none⟩) (Kd.R_far (p := ⟨gb168, 0, none⟩) (Kd.R_types HO_11.out BK168.out (by decide)) (fun _ hk => hk.2) (.slice Ao93 t194.length co93)) (fun _ hk => hk.2) (.slice Ao95 t197.length co95)) (fun _ hk => hk.2) (.slice Ao96 t200.length co96)) (fun _ hk => trivial))); (case aS => exact (below_size (upB HB.out GE168.out))); (case aL => have := LMc84.out; omega); intro v204 w97 ho hb hg hat; rw [← Ny203.out] at ho; have n0_ := sA (Kd.R_over' (by (with_reducible repeat (first | apply Kd.R_alloc | apply Kd.R_drewN | apply Kd.R_drew)); exact (Kd.R_mono (Kd.R_far (p := ⟨gb168, 2, none⟩) (Kd.R_far (p := ⟨gb168, 1, none⟩) (Kd.R_far (p := ⟨gb168, 0, none⟩) (Kd.R_types HO_a0.out BK168.out (by decide)) (fun _ hk => hk.2) (.slice Ao93 t194.length co93)) (fun _ hk => hk.2) (.slice Ao95 t197.length co95)) (fun _ hk => hk.2) (.slice Ao96 t200.length co96)) (fun _ h_ => h_.1))) (Kd.R_typed (by (with_reducible repeat (first | apply Kd.R_alloc | apply Kd.R_drewN | apply Kd.R_drew)); exact (Kd.R_mono (Kd.R_far (p := ⟨gb168, 2, none⟩) (Kd.R_far (p := ⟨gb168, 1, none⟩) (Kd.R_far (p := ⟨gb168, 0, none⟩) (Kd.R_types HO_11.out BK168.out (by decide)) (fun _ hk => hk.2) (.slice Ao93 t194.length co93)) (fun _ hk => hk.2) (.slice Ao95 t197.length co95)) (fun _ hk => hk.2) (.slice Ao96 t200.length co96)) (fun _ h_ => h_.1)))) (by decide) hg); have n1_ := sA (Kd.S_over' (by (with_reducible repeat (first | apply Kd.S_alloc | apply Kd.S_drewN | apply Kd.S_drew)); exact (Kd.S_mono (Kd.S_far (p := ⟨gb168, 2, none⟩) (Kd.S_far (p := ⟨gb168, 1, none⟩) (Kd.S_far (p := ⟨gb168, 0, none⟩) (Kd.S_types HO_a1.out BK168.out (by decide)) (fun _ hk => hk.2) (.slice Ao93 t194.length co93)) (fun _ hk => hk.2) (.slice Ao95 t197.length co95)) (fun _ hk => hk.2) (.slice Ao96 t200.length co96)) (fun _ h_ => h_.1))) (Kd.R_typed (by (with_reducible repeat (first | apply Kd.R_alloc | apply Kd.R_drewN | apply Kd.R_drew)); exact (Kd.R_mono (Kd.R_far (p := ⟨gb168, 2, none⟩) (Kd.R_far (p := ⟨gb168, 1, none⟩) (Kd.R_far (p := ⟨gb168, 0, none⟩) (Kd.R_types HO_11.out BK168.out (by decide)) (fun _ hk => hk.2) (.slice Ao93 t194.length co93)) (fun _ hk => hk.2) (.slice Ao95 t197.length co95)) (fun _ hk => hk.2) (.slice Ao96 t200.length co96)) (fun _ h_ => h_.1)))) (by decide) hg); have n2_ := sA (Kd.R_over' (by (with_reducible repeat (first | apply Kd.R_alloc | apply Kd.R_drewN | apply Kd.R_drew)); exact (Kd.R_mono (Kd.R_far (p := ⟨gb168, 2, none⟩) (Kd.R_far (p := ⟨gb168, 1, none⟩) (Kd.R_far (p := ⟨gb168, 0, none⟩) (Kd.R_types HO_a2.out BK168.out (by decide)) (fun _ hk => hk.2) (.slice Ao93 t194.length co93)) (fun _ hk => hk.2) (.slice Ao95 t197.length co95)) (fun _ hk => hk.2) (.slice Ao96 t200.length co96)) (fun _ h_ => h_.1))) (Kd.R_typed (by (with_reducible repeat (first | apply Kd.R_alloc | apply Kd.R_drewN | apply Kd.R_drew)); exact (Kd.R_mono (Kd.R_far (p := ⟨gb168, 2, none⟩) (Kd.R_far (p := ⟨gb168, 1, none⟩) (Kd.R_far (p := ⟨gb168, 0, none⟩) (Kd.R_types HO_11.out BK168.out (by decide)) (fun _ hk => hk.2) (.slice Ao93 t194.length co93)) (fun _ hk => hk.2) (.slice Ao95 t197.length co95)) (fun _ hk => hk.2) (.slice Ao96 t200.length co96)) (fun _ h_ => h_.1)))) (by decide) hg); have n3_ := sA (blk_grown (g := gb168) (o := .cells #[.slice Ao93 t194.length co93, .slice Ao95 t197.length co95, .slice Ao96 t200.length co96] 75 (0, 0)) (by (with_reducible repeat (first | refine blk_drewN ?_ _ | refine blk_drew ?_ | refine blk_alloc ?_ _)); refine blk_put (cs := #[.slice Ao93 t194.length co93, .slice Ao95 t197.length co95, .slice (some ad183) xa2_4.length co72]) ?_ 2 _ rfl; (with_reducible repeat (first | refine blk_drewN ?_ _ | refine blk_drew ?_ | refine blk_alloc ?_ _)); refine blk_put (cs := #[.slice Ao93 t194.length co93, .slice (some ad181) xa1_4.length co71, .slice (some ad183) xa2_4.length co72]) ?_ 1 _ rfl; (with_reducible repeat (first | refine blk_drewN ?_ _ | refine blk_drew ?_ | refine blk_alloc ?_ _)); refine blk_put (cs := #[.slice (some ad180) xa0_4.length co70, .slice (some ad181) xa1_4.length co71, .slice (some ad183) xa2_4.length co72]) ?_ 0 _ rfl; (with_reducible repeat (first | refine blk_drewN ?_ _ | refine blk_drew ?_ | refine blk_alloc ?_ _)); exact BK168.out) hg (Kd.R_ne HO_11.out BK168.out (by decide))); have n4_ := sA (Kd.R_over' (by (with_reducible repeat (first | apply Kd.R_alloc | apply Kd.R_drewN | apply Kd.R_drew)); exact (Kd.R_mono (Kd.R_far (p := ⟨gb168, 2, none⟩) (Kd.R_far (p := ⟨gb168, 1, none⟩) (Kd.R_far (p := ⟨gb168, 0, none⟩) (Kd.R_types HO186.out BK168.out (by decide)) (fun _ hk => hk.2) (.slice Ao93 t194.length co93)) (fun _ hk => hk.2) (.slice Ao95 t197.length co95)) (fun _ hk => hk.2) (.slice Ao96 t200.length co96)) (fun _ h_ => h_.1))) (Kd.R_typed (by (with_reducible repeat (first | apply Kd.R_alloc | apply Kd.R_drewN | apply Kd.R_drew)); exact (Kd.R_mono (Kd.R_far (p := ⟨gb168, 2, none⟩) (Kd.R_far (p := ⟨gb168, 1, none⟩) (Kd.R_far (p := ⟨gb168, 0, none⟩) (Kd.R_types HO_11.out BK168.out (by decide)) (fun _ hk => hk.2) (.slice Ao93 t194.length co93)) (fun _ hk => hk.2) (.slice Ao95 t197.length co95)) (fun _ hk => hk.2) (.slice Ao96 t200.length co96)) (fun _ h_ => h_.1)))) (by decide) hg); have n5_ := sA (Kd.S_over' (by (with_reducible repeat (first | apply Kd.S_alloc | apply Kd.S_drewN | apply Kd.S_drew)); exact (Kd.S_mono (Kd.S_far (p := ⟨gb168, 2, none⟩) (Kd.S_far (p := ⟨gb168, 1, none⟩) (Kd.S_far (p := ⟨gb168, 0, none⟩) (Kd.S_types HO189.out BK168.out (by decide)) (fun _ hk => hk.2) (.slice Ao93 t194.length co93)) (fun _ hk => hk.2) (.slice Ao95 t197.length co95)) (fun _ hk => hk.2) (.slice Ao96 t200.length co96)) (fun _ h_ => h_.1))) (Kd.R_typed (by (with_reducible repeat (first | apply Kd.R_alloc | apply Kd.R_drewN | apply Kd.R_drew)); exact (Kd.R_mono (Kd.R_far (p := ⟨gb168, 2, none⟩) (Kd.R_far (p := ⟨gb168, 1, none⟩) (Kd.R_far (p := ⟨gb168, 0, none⟩) (Kd.R_types HO_11.out BK168.out (by decide)) (fun _ hk => hk.2) (.slice Ao93 t194.length co93)) (fun _ hk => hk.2) (.slice Ao95 t197.length co95)) (fun _ hk => hk.2) (.slice Ao96 t200.length co96)) (fun _ h_ => h_.1)))) (by decide) hg); have n6_ := sA (Kd.R_over' (by (with_reducible repeat (first | apply Kd.R_alloc | apply Kd.R_drewN | apply Kd.R_drew)); exact (Kd.R_mono (Kd.R_far (p := ⟨gb168, 2, none⟩) (Kd.R_far (p := ⟨gb168, 1, none⟩) (Kd.R_far (p := ⟨gb168, 0, none⟩) (Kd.R_types HO192.out BK168.out (by decide)) (fun _ hk => hk.2) (.slice Ao93 t194.length co93)) (fun _ hk => hk.2) (.slice Ao95 t197.length co95)) (fun _ hk => hk.2) (.slice Ao96 t200.length co96)) (fun _ h_ => h_.1))) (Kd.R_typed (by (with_reducible repeat (first | apply Kd.R_alloc | apply Kd.R_drewN | apply Kd.R_drew)); exact (Kd.R_mono (Kd.R_far (p := ⟨gb168, 2, none⟩) (Kd.R_far (p := ⟨gb168, 1, none⟩) (Kd.R_far (p := ⟨gb168, 0, none⟩) (Kd.R_types HO_11.out BK168.out (by decide)) (fun _ hk => hk.2) (.slice Ao93 t194.length co93)) (fun _ hk => hk.2) (.slice Ao95 t197.length co95)) (fun _ hk => hk.2) (.slice Ao96 t200.length co96)) (fun _ h_ => h_.1)))) (by decide) hg); have n7_ := sA (Kd.R_over' (by (with_reducible repeat (first | apply Kd.R_alloc | apply Kd.R_drewN | apply Kd.R_drew)); exact (Kd.R_mono (Kd.R_far (p := ⟨gb168, 2, none⟩) (Kd.R_far (p := ⟨gb168, 1, none⟩) (Kd.R_far (p := ⟨gb168, 0, none⟩) (Kd.R_types HO196.out BK168.out (by decide)) (fun _ hk => hk.2) (.slice Ao93 t194.length co93)) (fun _ hk => hk.2) (.slice Ao95 t197.length co95)) (fun _ hk => hk.2) (.slice Ao96 t200.length co96)) (fun _ h_ => h_.1))) (Kd.R_typed (by (with_reducible repeat (first | apply Kd.R_alloc | apply Kd.R_drewN | apply Kd.R_drew)); exact (Kd.R_mono (Kd.R_far (p := ⟨gb168, 2, none⟩) (Kd.R_far (p := ⟨gb168, 1, none⟩) (Kd.R_far (p := ⟨gb168, 0, none⟩) (Kd.R_types HO_11.out BK168.out (by decide)) (fun _ hk => hk.2) (.slice Ao93 t194.length co93)) (fun _ hk => hk.2) (.slice Ao95 t197.length co95)) (fun _ hk => hk.2) (.slice Ao96 t200.length co96)) (fun _ h_ => h_.1)))) (by decide) hg); have n8_ := sA (Kd.S_over' (by (with_reducible repeat (first | apply Kd.S_alloc | apply Kd.S_drewN | apply Kd.S_drew)); exact (Kd.S_mono (Kd.S_far (p := ⟨gb168, 2, none⟩) (Kd.S_far (p := ⟨gb168, 1, none⟩) (Kd.S_far (p := ⟨gb168, 0, none⟩) (Kd.S_types HO199.out BK168.out (by decide)) (fun _ hk => hk.2) (.slice Ao93 t194.length co93)) (fun _ hk => hk.2) (.slice Ao95 t197.length co95)) (fun _ hk => hk.2) (.slice Ao96 t200.length co96)) (fun _ h_ => h_.1))) (Kd.R_typed (by (with_reducible repeat (first | apply Kd.R_alloc | apply Kd.R_drewN | apply Kd.R_drew)); exact (Kd.R_mono (Kd.R_far (p := ⟨gb168, 2, none⟩) (Kd.R_far (p := ⟨gb168, 1, none⟩) (Kd.R_far (p := ⟨gb168, 0, none⟩) (Kd.R_types HO_11.out BK168.out (by decide)) (fun _ hk => hk.2) (.slice Ao93 t194.length co93)) (fun _ hk => hk.2) (.slice Ao95 t197.length co95)) (fun _ hk => hk.2) (.slice Ao96 t200.length co96)) (fun _ h_ => h_.1)))) (by decide) hg); have n9_ := sA (Kd.R_over' (by (with_reducible repeat (first | apply Kd.R_alloc | apply Kd.R_drewN | apply Kd.R_drew)); exact (Kd.R_mono (Kd.R_far (p := ⟨gb168, 2, none⟩) (Kd.R_far (p := ⟨gb168, 1, none⟩) (Kd.R_far (p := ⟨gb168, 0, none⟩) (Kd.R_types HO202.out BK168.out (by decide)) (fun _ hk => hk.2) (.slice Ao93 t194.length co93)) (fun _ hk => hk.2) (.slice Ao95 t197.length co95)) (fun _ hk => hk.2) (.slice Ao96 t200.length co96)) (fun _ h_ => h_.1))) (Kd.R_typed (by (with_reducible repeat (first | apply Kd.R_alloc | apply Kd.R_drewN | apply Kd.R_drew)); exact (Kd.R_mono (Kd.R_far (p := ⟨gb168, 2, none⟩) (Kd.R_far (p := ⟨gb168, 1, none⟩) (Kd.R_far (p := ⟨gb168, 0, none⟩) (Kd.R_types HO_11.out BK168.out (by decide)) (fun _ hk => hk.2) (.slice Ao93 t194.length co93)) (fun _ hk => hk.2) (.slice Ao95 t197.length co95)) (fun _ hk => hk.2) (.slice Ao96 t200.length co96)) (fun _ h_ => h_.1)))) (by decide) hg); have n10_ := sA (hb); have n11_ := sA (ho); clear HO_a0; clear HO_a1; clear HO_a2; clear BK168; clear HO186; clear HO189; clear HO192; clear HO196; clear HO199; clear HO202; clear HB; clear HO_11; have HO_a0 := n0_; have HO_a1 := n1_; have HO_a2 := n2_; have BK168 := n3_; have HO186 := n4_; have HO189 := n5_; have HO192 := n6_; have HO196 := n7_; have HO199 := n8_; have HO202 := n9_; have HB := n10_; have HO205 := n11_; clear n0_ n1_ n2_ n3_ n4_ n5_ n6_ n7_ n8_ n9_ n10_ n11_; clear ho hb hg hat))
                               go_roundg k6
                               case measure => have := HK1.out; have := HK2.out; have := HK3.out; have := HK4.out; have := HJ55.out; have := HK6.out; omega
                               case rel => exact ⟨(wrap64 (x9_4 - x15_6)), (y203), (wrap64 (x14_4 + 1)), (t194), (t197), (t200), (.slice Ao93 t194.length co93), (.slice Ao95 t197.length co95), (.slice Ao96 t200.length co96), (upE), (upE), H', ⟨by have := HK1.out; have := HK2.out; have := HK3.out; have := HK4.out; have := HJ55.out; have := HK6.out; omega⟩, ⟨upR HO205.out⟩, ⟨by (with_reducible repeat (first | apply Kd.R_alloc | apply Kd.R_drewN | apply Kd.R_drew)); exact Kd.R_mono HO196.out (fun _ hk => hk.1.1.1.1)⟩, ⟨by (with_reducible repeat (first | apply Kd.S_alloc | apply Kd.S_drewN | apply Kd.S_drew)); exact Kd.S_mono HO199.out (fun _ hk => ⟨hk.1.1.1.1.1.1.1, hk.1.1.1.1.1.1.2⟩)⟩, ⟨by (with_reducible repeat (first | apply Kd.R_alloc | apply Kd.R_drewN | apply Kd.R_drew)); exact Kd.R_mono HO202.out (fun _ hk => hk.1.1.1.1)⟩, ⟨by (with_reducible repeat (first | refine blk_drewN ?_ _ | refine blk_drew ?_ | refine blk_alloc ?_ _)); exact BK168.out⟩, ⟨upB HB.out GE168.out⟩⟩
                              ·
                               rw [if_neg c84] at H
                               exact absurd H (by simp)
                            ·
                             rw [if_neg c73] at H
                             have c73b0 : decide (0 < x15_6) = false := decide_eq_false c73
                             clear c73
                             have H' := sA H
                             clear H
                             go_wp2
                             go_roundg k6
                             case measure => have := HK1.out; have := HK2.out; have := HK3.out; have := HK4.out; have := HJ55.out; have := HK6.out; omega
                             case rel => exact ⟨(x9_4), (x11_4), (wrap64 (x14_4 + 1)), (xa0_4), (xa1_4), (xa2_4), (.slice (some ad180) xa0_4.length co70), (.slice (some ad181) xa1_4.length co71), (.slice (some ad183) xa2_4.length co72), (upE), (upE), H', ⟨by have := HK1.out; have := HK2.out; have := HK3.out; have := HK4.out; have := HJ55.out; have := HK6.out; omega⟩, ⟨upR HO_11.out⟩, ⟨upR HO_a0.out⟩, ⟨upS HO_a1.out⟩, ⟨upR HO_a2.out⟩, ⟨by (with_reducible repeat (first | refine blk_drewN ?_ _ | refine blk_drew ?_ | refine blk_alloc ?_ _)); exact BK168.out⟩, ⟨upB HB.out GE168.out⟩⟩
                         ·
                          rw [if_neg c66] at H
                          exact absurd H (by simp)
                        ·
                         rw [if_neg c65] at H
                         exact absurd H (by simp)
                       ·
                        rw [if_neg c64] at H
                        exact absurd H (by simp)
                      ·
                       rw [if_neg c63] at H
                       exact absurd H (by simp)
                     ·
                      rw [if_neg c62] at H
                      exact absurd H (by simp)
                    ·
                     rw [if_neg c61] at H
                     exact absurd H (by simp)
                   ·
                    rw [if_neg c60] at H
                    exact absurd H (by simp)
               ·
                rw [if_neg c55] at H
                have c55b0 : decide (x14_4 < (l0.length : Int)) = false := decide_eq_false c55
                clear c55
                have H' := sA H
                clear H
                go_wp2
                go_roundg k4
                case measure => have := HK1.out; have := HK2.out; have := HK3.out; have := HK4.out; omega
                case rel => exact ⟨(x9_4), (x11_4), (wrap64 (x13_3 + 1)), (xa0_4), (xa1_4), (xa2_4), (ua0), (ua1), (ua2), (upE), (upE), H', ⟨by have := HK1.out; have := HK2.out; have := HK3.out; have := HK4.out; omega⟩, ⟨upR HO_11.out⟩, ⟨upR HO_a0.out⟩, ⟨upS HO_a1.out⟩, ⟨upR HO_a2.out⟩, ⟨by (with_reducible repeat (first | refine blk_drewN ?_ _ | refine blk_drew ?_ | refine blk_alloc ?_ _)); exact BK168.out⟩, ⟨upB HB.out GE168.out⟩⟩
            ·
             rw [if_neg c54] at H
             have c54b0 : decide (x13_3 < (l0.length : Int)) = false := decide_eq_false c54
             clear c54
             have H' := sA H
             clear H
             go_wp2
             go_roundg k3
             case measure => have := HK1.out; have := HK2.out; have := HK3.out; omega
             case rel => exact ⟨(x9_3), (x11_3), (wrap64 (x12_2 + 1)), (xa0_3), (xa1_3), (xa2_3), (ua0), (ua1), (ua2), (upE), (upE), H', ⟨by have := HK1.out; have := HK2.out; have := HK3.out; omega⟩, ⟨upR HO_11.out⟩, ⟨upR HO_a0.out⟩, ⟨upS HO_a1.out⟩, ⟨upR HO_a2.out⟩, ⟨by (with_reducible repeat (first | refine blk_drewN ?_ _ | refine blk_drew ?_ | refine blk_alloc ?_ _)); exact BK168.out⟩, ⟨upB HB.out GE168.out⟩⟩
         ·
          rw [if_neg c53] at H
          have c53b0 : decide (x12_2 < (l0.length : Int)) = false := decide_eq_false c53
          clear c53
          simp only [Option.some.injEq, Prod.mk.injEq] at H
          obtain ⟨rfl, rfl⟩ := H
          go_wp2
          go_ret2
          exact ⟨_, by first | rfl | (simp [errW_none, errW_some] <;> rfl) | (simp [*, errW_none, errW_some] <;> rfl), by (with_reducible repeat (first | apply Kd.R_alloc | apply Kd.R_drewN | apply Kd.R_drew)); exact HO_11.out, upB HB.out GE168.out⟩
  ·
   rw [if_neg c6] at H
   exact absurd H (by simp)
 ·
  rw [if_neg c5] at H
  exact absurd H (by simp)
end Go.Proofs.Ytdljbmgknhbceaa.Q
end
section
namespace Go.Proofs.Ytdljbmgknhbceaa.A
open Go.RowKit Go.Proofs.YtdljbmgknhbceaaW.PrintWords Go.Proofs.YtdljbmgknhbceaaW.PrintLast Go.Proofs.YtdljbmgknhbceaaW.PrintMore Go.Proofs.Ytdljbmgknhbceaa.Q
attribute [local go_sem high] eqA29
set_option maxHeartbeats 4000000 in
set_option maxRecDepth 100000 in
theorem Settles_any (A0 : Option Addr) (c0 : Nat) (t : List (List Int)) (A1 : Option Addr) (c1 : Nat) (q : List Int) (w : World) (hr0 : Kd.C KT w A0 t.length t) (hc0 : t.length ≤ c0) (hr1 : Kd.C (Kd.int .i64) w A1 q.length q) (hc1 : q.length ≤ c1) :
 Calls Try.prog 9 #[.slice A0 t.length c0, .slice A1 q.length c1] w fun e w' => e = .returned (.bool true) ∧ Below w.heap.size w w' := by
 have HR0 := sA hr0
 have HR1 := sA hr1
 have HC0 := sA hc0
 have HC1 := sA hc1
 obtain ⟨kl, hkl⟩ := P.low_f t 6 30 hr0.2.1
 obtain ⟨kv, hkv⟩ := P.valid_f t hr0.2.1
 have hkq := P.quotas_f t q hr1.2.1 (q.length + 1) (by omega)
 have HKL := sA hkl
 have HKV := sA hkv
 have HKQ := sA hkq
 clear hr0 hr1 hc0 hc1 hkl hkv hkq
 have wrong : A.fitsT t q = false → quota_Settle.f 0 t q = some ([], 1) := fun h => by rw [quota_Settle.f, settleOut, h, if_neg (by simp)]
 have WR := sA wrong
 clear wrong
 have HBk : ∀ {w w1 : World} (m : Nat), Below w.heap.size w w1 → Below w.heap.size w (w1.drewN m) := fun m h => pw_below_drewN h m
 by_cases ht : (t.length : Int) > 14
 · have htv : A.validT t = false := by
    cases c : A.validT t with
    | false => rfl
    | true => have := (A.valid_sq c).1; omega
   rw [htv] at HKV
   have htb : decide ((t.length : Int) > 14) = true := decide_eq_true ht
   have htb' : decide (14 < (t.length : Int)) = true := decide_eq_true (by omega)
   clear ht htv
   go_enter Try.func9, Try.ntmps9
   go_wp2_with (first | (go_at_call 14; refine (kinkeeplaw35_awake.calls 0 true _ rfl).mono ?_; rintro e w1 ⟨rfl, hb⟩; have HB := sA hb; clear hb) | (go_at_call 23; refine (kinkeepref35_Valid.calls kv _ _ t false _ (by repeat (first | exact Kd.C_below HR0.out HB.out | refine Kd.C_drewN ?_ _)) HC0.out HKV.out).mono ?_; rintro e w2 ⟨rfl, ⟨m2, rfl⟩⟩))
   go_ret
   exact ⟨rfl, upC HB.out⟩
 · have htb : decide ((t.length : Int) > 14) = false := decide_eq_false ht
   have htb' : decide (14 < (t.length : Int)) = false := decide_eq_false (by omega)
   have ht14 : t.length ≤ 14 := by omega
   clear ht
   by_cases hq : (q.length : Int) > 20
   · have hqb : decide ((q.length : Int) > 20) = true := decide_eq_true hq
     have hqb' : decide (20 < (q.length : Int)) = true := decide_eq_true (by omega)
     cases hv : A.validT t with
     | false =>
      rw [hv] at HKV
      clear hv hq
      go_enter Try.func9, Try.ntmps9
      go_wp2_with (first | (go_at_call 14; refine (kinkeeplaw35_awake.calls 0 true _ rfl).mono ?_; rintro e w1 ⟨rfl, hb⟩; have HB := sA hb; clear hb) | (go_at_call 23; refine (kinkeepref35_Valid.calls kv _ _ t false _ (by repeat (first | exact Kd.C_below HR0.out HB.out | refine Kd.C_drewN ?_ _)) HC0.out HKV.out).mono ?_; rintro e w2 ⟨rfl, ⟨m2, rfl⟩⟩))
      go_ret
      exact ⟨rfl, upC HB.out⟩
     | true =>
      rw [hv] at HKV
      have hqf : (!(A.badAny q) && decide (q.length = t.length)) = false := by
       rw [Bool.and_eq_false_iff]; right; exact decide_eq_false (by have := (A.valid_sq hv).1; omega)
      rw [hqf] at HKQ
      clear hv hqf hq
      go_enter Try.func9, Try.ntmps9
      go_wp2_with (first | (go_at_call 14; refine (kinkeeplaw35_awake.calls 0 true _ rfl).mono ?_; rintro e w1 ⟨rfl, hb⟩; have HB := sA hb; clear hb) | (go_at_call 23; refine (kinkeepref35_Valid.calls kv _ _ t true _ (by repeat (first | exact Kd.C_below HR0.out HB.out | refine Kd.C_drewN ?_ _)) HC0.out HKV.out).mono ?_; rintro e w2 ⟨rfl, ⟨m2, rfl⟩⟩) | (go_at_call 24; refine (kinkeepref35_Quotas.calls (q.length + 1) _ _ t _ _ q false _ (by repeat (first | exact Kd.C_below HR0.out HB.out | refine Kd.C_drewN ?_ _)) HC0.out (by repeat (first | exact Kd.C_below HR1.out HB.out | refine Kd.C_drewN ?_ _)) HC1.out HKQ.out).mono ?_; rintro e w3 ⟨rfl, ⟨m3, rfl⟩⟩))
      go_ret
      exact ⟨rfl, upC HB.out⟩
   · have hqb : decide ((q.length : Int) > 20) = false := decide_eq_false hq
     have hqb' : decide (20 < (q.length : Int)) = false := decide_eq_false (by omega)
     have hq20 : q.length ≤ 20 := by omega
     clear hq
     cases hv : A.validT t with
     | false =>
      rw [hv] at HKV
      obtain ⟨l, hl⟩ : ∃ l : List S29, l = [] := ⟨_, rfl⟩
      have HSO : Aside0 (quota_Settle.f 0 t q = some (l, 1)) := ⟨by rw [hl]; exact WR.out (by rw [A.fitsT, hv]; rfl)⟩
      subst hl
      clear hv
      go_enter Try.func9, Try.ntmps9
      go_wp2_with (first | (go_at_call 14; refine (kinkeeplaw35_awake.calls 0 true _ rfl).mono ?_; rintro e w1 ⟨rfl, hb⟩; have HB := sA hb; clear hb) | (go_at_call 23; refine (kinkeepref35_Valid.calls kv _ _ t false _ (by repeat (first | exact Kd.C_below HR0.out HB.out | refine Kd.C_drewN ?_ _)) HC0.out HKV.out).mono ?_; rintro e w2 ⟨rfl, ⟨m2, rfl⟩⟩) | (go_at_call 20; refine (quota_Settle.calls 0 _ _ t _ _ q [] _ _ (Kd.C_below HR0.out (by first | exact HB.out | exact pw_below_drewN HB.out _ | exact pw_below_drewN (pw_below_drewN HB.out _) _ | exact pw_below_drewN (pw_below_drewN (pw_below_drewN HB.out _) _) _)) HC0.out (Kd.C_below HR1.out (by first | exact HB.out | exact pw_below_drewN HB.out _ | exact pw_below_drewN (pw_below_drewN HB.out _) _ | exact pw_below_drewN (pw_below_drewN (pw_below_drewN HB.out _) _) _)) HC1.out HSO.out).mono ?_; rintro e w5 ⟨v5, rfl, hR, hb⟩; have HB3 := sA (below_step (by first | exact HB.out | exact pw_below_drewN HB.out _ | exact pw_below_drewN (pw_below_drewN HB.out _) _ | exact pw_below_drewN (pw_below_drewN (pw_below_drewN HB.out _) _) _) hb); obtain ⟨A3, c3, e3⟩ := Kd.R_slice hR; subst e3; have HL3 := sA (Kd.R_reads' hR).2.2; have HLC := sA (Kd.R_reads' hR); clear hR hb))
      go_ret
      exact ⟨rfl, by repeat (first | (with_reducible first | exact HB3.out | apply below_alloc | apply pw_below_drewN | apply below_drew1) | exact HB3.out)⟩
     | true =>
      rw [hv] at HKV
      cases hqf : (!(A.badAny q) && decide (q.length = t.length)) with
      | false =>
       rw [hqf] at HKQ
       have HSO : Aside0 (quota_Settle.f 0 t q = some ([], 1)) := ⟨WR.out (by
         rw [A.fitsT, hv, Bool.true_and, Bool.and_comm]; exact hqf)⟩
       clear hv hqf
       go_enter Try.func9, Try.ntmps9
       go_wp2_with (first | (go_at_call 14; refine (kinkeeplaw35_awake.calls 0 true _ rfl).mono ?_; rintro e w1 ⟨rfl, hb⟩; have HB := sA hb; clear hb) | (go_at_call 23; refine (kinkeepref35_Valid.calls kv _ _ t true _ (by repeat (first | exact Kd.C_below HR0.out HB.out | refine Kd.C_drewN ?_ _)) HC0.out HKV.out).mono ?_; rintro e w2 ⟨rfl, ⟨m2, rfl⟩⟩) | (go_at_call 24; refine (kinkeepref35_Quotas.calls (q.length + 1) _ _ t _ _ q false _ (by repeat (first | exact Kd.C_below HR0.out HB.out | refine Kd.C_drewN ?_ _)) HC0.out (by repeat (first | exact Kd.C_below HR1.out HB.out | refine Kd.C_drewN ?_ _)) HC1.out HKQ.out).mono ?_; rintro e w3 ⟨rfl, ⟨m3, rfl⟩⟩) | (go_at_call 20; refine (quota_Settle.calls 0 _ _ t _ _ q [] _ _ (Kd.C_below HR0.out (by first | exact HB.out | exact pw_below_drewN HB.out _ | exact pw_below_drewN (pw_below_drewN HB.out _) _ | exact pw_below_drewN (pw_below_drewN (pw_below_drewN HB.out _) _) _)) HC0.out (Kd.C_below HR1.out (by first | exact HB.out | exact pw_below_drewN HB.out _ | exact pw_below_drewN (pw_below_drewN HB.out _) _ | exact pw_below_drewN (pw_below_drewN (pw_below_drewN HB.out _) _) _)) HC1.out HSO.out).mono ?_; rintro e w5 ⟨v5, rfl, hR, hb⟩; have HB3 := sA (below_step (by first | exact HB.out | exact pw_below_drewN HB.out _ | exact pw_below_drewN (pw_below_drewN HB.out _) _ | exact pw_below_drewN (pw_below_drewN (pw_below_drewN HB.out _) _) _) hb); obtain ⟨A3, c3, e3⟩ := Kd.R_slice hR; subst e3; have HL3 := sA (Kd.R_reads' hR).2.2; have HLC := sA (Kd.R_reads' hR); clear hR hb))
       go_ret
       exact ⟨rfl, by repeat (first | (with_reducible first | exact HB3.out | apply below_alloc | apply pw_below_drewN | apply below_drew1) | exact HB3.out)⟩
      | true =>
       rw [hqf] at HKQ
       have hf : A.fitsT t q = true := by rw [A.fitsT, hv, Bool.true_and, Bool.and_comm]; exact hqf
       clear hqf
       cases hlow : (P.lowB t 30 && decide ((t.length : Int) ≤ 6)) with
       | false =>
        rw [hlow] at HKL
        clear hlow hv hf
        go_enter Try.func9, Try.ntmps9
        go_wp2_with (first | (go_at_call 14; refine (kinkeeplaw35_awake.calls 0 true _ rfl).mono ?_; rintro e w1 ⟨rfl, hb⟩; have HB := sA hb; clear hb) | (go_at_call 23; refine (kinkeepref35_Valid.calls kv _ _ t true _ (by repeat (first | exact Kd.C_below HR0.out HB.out | refine Kd.C_drewN ?_ _)) HC0.out HKV.out).mono ?_; rintro e w2 ⟨rfl, ⟨m2, rfl⟩⟩) | (go_at_call 24; refine (kinkeepref35_Quotas.calls (q.length + 1) _ _ t _ _ q true _ (by repeat (first | exact Kd.C_below HR0.out HB.out | refine Kd.C_drewN ?_ _)) HC0.out (by repeat (first | exact Kd.C_below HR1.out HB.out | refine Kd.C_drewN ?_ _)) HC1.out HKQ.out).mono ?_; rintro e w3 ⟨rfl, ⟨m3, rfl⟩⟩) | (go_at_call 19; refine (kinkeeplaw35_low.calls kl _ _ t 6 30 false _ (by repeat (first | exact Kd.C_below HR0.out HB.out | refine Kd.C_drewN ?_ _)) HC0.out HKL.out).mono ?_; rintro e w4 ⟨rfl, ⟨m4, rfl⟩⟩))
        go_ret
        exact ⟨rfl, upC HB.out⟩
       | true =>
        rw [hlow] at HKL
        rw [Bool.and_eq_true, decide_eq_true_eq] at hlow
        obtain ⟨ks, hks⟩ := P.settle_ref hf (by omega) (fun i j hi hj => by
          have := P.lowB_at hlow.1 i j hi (by rw [P.sq_of hv i hi]; exact hj)
          omega)
        obtain ⟨l, hl⟩ : ∃ l, l = (settleOut t q).1 := ⟨_, rfl⟩
        obtain ⟨e0, he0⟩ : ∃ e, e = (settleOut t q).2 := ⟨_, rfl⟩
        have HSO : Aside0 (quota_Settle.f 0 t q = some (l, e0)) := ⟨by rw [quota_Settle.f, hl, he0]⟩
        rw [← hl, ← he0] at hks
        have WF := sA hf
        clear hlow hv hf
        by_cases hz : e0 = 0
        · subst hz
          rw [decide_eq_true rfl] at hks
          obtain ⟨wl, hwl⟩ : ∃ wl, wl = l.map P.c24 := ⟨_, rfl⟩
          rw [← hwl] at hks
          have HKS := sA hks
          have hlen : l.length = wl.length := by rw [hwl, List.length_map]
          have hn1 : ((l.length : Int) != (wl.length : Int)) = false := by rw [hlen]; simp
          have hn2 : ((l.length : Int) == (wl.length : Int)) = true := by rw [hlen]; simp
          have HLN := sA hlen
          have HWL := sA hwl
          clear hks hl he0 hlen hwl
          go_enter Try.func9, Try.ntmps9
          go_wp2_with (first | (go_at_call 14; refine (kinkeeplaw35_awake.calls 0 true _ rfl).mono ?_; rintro e w1 ⟨rfl, hb⟩; have HB := sA hb; clear hb) | (go_at_call 23; refine (kinkeepref35_Valid.calls kv _ _ t true _ (by repeat (first | exact Kd.C_below HR0.out HB.out | refine Kd.C_drewN ?_ _)) HC0.out HKV.out).mono ?_; rintro e w2 ⟨rfl, ⟨m2, rfl⟩⟩) | (go_at_call 24; refine (kinkeepref35_Quotas.calls (q.length + 1) _ _ t _ _ q true _ (by repeat (first | exact Kd.C_below HR0.out HB.out | refine Kd.C_drewN ?_ _)) HC0.out (by repeat (first | exact Kd.C_below HR1.out HB.out | refine Kd.C_drewN ?_ _)) HC1.out HKQ.out).mono ?_; rintro e w3 ⟨rfl, ⟨m3, rfl⟩⟩) | (go_at_call 19; refine (kinkeeplaw35_low.calls kl _ _ t 6 30 true _ (by repeat (first | exact Kd.C_below HR0.out HB.out | refine Kd.C_drewN ?_ _)) HC0.out HKL.out).mono ?_; rintro e w4 ⟨rfl, ⟨m4, rfl⟩⟩) | (go_at_call 20; refine (quota_Settle.calls 0 _ _ t _ _ q l _ _ (Kd.C_below HR0.out (by first | exact HB.out | exact pw_below_drewN HB.out _ | exact pw_below_drewN (pw_below_drewN HB.out _) _ | exact pw_below_drewN (pw_below_drewN (pw_below_drewN HB.out _) _) _)) HC0.out (Kd.C_below HR1.out (by first | exact HB.out | exact pw_below_drewN HB.out _ | exact pw_below_drewN (pw_below_drewN HB.out _) _ | exact pw_below_drewN (pw_below_drewN (pw_below_drewN HB.out _) _) _)) HC1.out HSO.out).mono ?_; rintro e w5 ⟨v5, rfl, hR, hb⟩; have HB3 := sA (below_step (by first | exact HB.out | exact pw_below_drewN HB.out _ | exact pw_below_drewN (pw_below_drewN HB.out _) _ | exact pw_below_drewN (pw_below_drewN (pw_below_drewN HB.out _) _) _) hb); obtain ⟨A3, c3, e3⟩ := Kd.R_slice hR; subst e3; have HL3 := sA (Kd.R_reads' hR).2.2; have HLC := sA (Kd.R_reads' hR); clear hR hb) | (go_at_call 31; refine (kinkeepref35_Settle.calls ks _ _ t _ _ q wl true _ (Kd.C_below HR0.out HB3.out) HC0.out (Kd.C_below HR1.out HB3.out) HC1.out HKS.out).mono ?_; rintro e w6 ⟨v6, rfl, hR, hb⟩; have HB4 := sA (below_step HB3.out hb); have HL4 := sA (Kd.C_below HL3.out hb); obtain ⟨A4, c4, e4⟩ := Kd.R_slice hR; subst e4; have HW4 := sA (Kd.R_reads' hR).2.2; have HWC := sA (Kd.R_reads' hR); clear hR hb))
          obtain ⟨wb, rfl⟩ : ∃ wo : World, wo = w6 := ⟨_, rfl⟩
          have hml : l.length ≤ 9223372036854775807 := HL4.out.2.1
          go_loopw [10] (fun i wi => ∃ j : Nat, i = .int .i64 j ∧ Aside0 (j ≤ l.length) ∧ Aside0 (Below wb.heap.size wb wi)) (fun i _ => l.length - (intOf i).toNat)
          case atStart => exact ⟨0, rfl, ⟨by omega⟩, ⟨pw_below_drewN (Below.refl _ _) 0⟩⟩
          case round =>
           obtain ⟨j, rfl, hj, HBi⟩ := hrel
           have hj1 := hj.out
           by_cases hjl : j < l.length
           · have hjb : decide ((j : Int) < (l.length : Int)) = true := decide_eq_true (by omega)
             have hjw : (j : Int) < (wl.length : Int) := by rw [← HLN.out]; omega
             obtain ⟨ad1, e, hx0, hx1, hx2, hx3⟩ := at_T29 (Kd.C_below HL4.out HBi.out) (j : Int) (by omega) (by omega)
             cases e
             obtain ⟨ad2, e, hy0, hy1, hy2, hy3⟩ := at_T24 (Kd.C_below HW4.out HBi.out) (j : Int) (by omega) hjw
             cases e
             rw [Int.toNat_natCast] at hx0 hx1 hx2 hx3 hy0 hy1 hy2 hy3
             have hxy : rd_T24 wl (j : Int) = P.c24 (rd_T29 l (j : Int)) := by
              rw [HWL.out]
              simp [rd_T29, rd_T24, List.getD_eq_getElem?_getD, hjl]
             rw [hxy] at hy0 hy1 hy2 hy3
             obtain ⟨X, hX⟩ : ∃ X, X = rd_T29 l (j : Int) := ⟨_, rfl⟩
             rw [← hX] at hx0 hx1 hx2 hx3 hy0 hy1 hy2 hy3
             obtain ⟨x0, x1, x2, x3⟩ := X
             simp only [P.c24] at hx0 hx1 hx2 hx3 hy0 hy1 hy2 hy3
             have hu29 := Try.underlying29
             have hu24 := Try.underlying24
             clear hxy hX
             go_wp2
             repeat (go_quiet (fail); try go_wp2)
             go_roundw
             case rel => exact ⟨j + 1, by go_num, ⟨by omega⟩, ⟨by repeat (first | (with_reducible first | exact HBi.out | apply below_alloc | apply pw_below_drewN | apply below_drew1) | exact HBi.out)⟩⟩
             case measure => simp [intOf]; omega
           · have hjb : decide ((j : Int) < (l.length : Int)) = false := decide_eq_false (by omega)
             go_wp2
             go_ret
             exact ⟨rfl, below_step HB4.out (by repeat (first | (with_reducible first | exact HBi.out | apply below_alloc | apply pw_below_drewN | apply below_drew1) | exact HBi.out))⟩
        · have hl0 : l = [] ∧ e0 = 7 := by
           have h1 := P.settle_err t q
           rw [← hl, ← he0] at h1
           rcases h1 with h | ⟨h, h' | h'⟩
           · exact absurd h hz
           · exfalso
             have : (settleOut t q).2 = 1 := by rw [← he0]; exact h'
             rw [settleOut, if_pos (WF.out)] at this
             simp only at this
             split at this <;> cases this
           · exact ⟨h, h'⟩
          obtain ⟨rfl, rfl⟩ := hl0
          rw [decide_eq_false (by omega)] at hks
          obtain ⟨wl, hwl⟩ : ∃ wl : List S24, wl = List.map P.c24 [] := ⟨_, rfl⟩
          rw [← hwl] at hks
          have HKS := sA hks
          clear hks hl he0 hz hwl
          go_enter Try.func9, Try.ntmps9
          go_wp2_with (first | (go_at_call 14; refine (kinkeeplaw35_awake.calls 0 true _ rfl).mono ?_; rintro e w1 ⟨rfl, hb⟩; have HB := sA hb; clear hb) | (go_at_call 23; refine (kinkeepref35_Valid.calls kv _ _ t true _ (by repeat (first | exact Kd.C_below HR0.out HB.out | refine Kd.C_drewN ?_ _)) HC0.out HKV.out).mono ?_; rintro e w2 ⟨rfl, ⟨m2, rfl⟩⟩) | (go_at_call 24; refine (kinkeepref35_Quotas.calls (q.length + 1) _ _ t _ _ q true _ (by repeat (first | exact Kd.C_below HR0.out HB.out | refine Kd.C_drewN ?_ _)) HC0.out (by repeat (first | exact Kd.C_below HR1.out HB.out | refine Kd.C_drewN ?_ _)) HC1.out HKQ.out).mono ?_; rintro e w3 ⟨rfl, ⟨m3, rfl⟩⟩) | (go_at_call 19; refine (kinkeeplaw35_low.calls kl _ _ t 6 30 true _ (by repeat (first | exact Kd.C_below HR0.out HB.out | refine Kd.C_drewN ?_ _)) HC0.out HKL.out).mono ?_; rintro e w4 ⟨rfl, ⟨m4, rfl⟩⟩) | (go_at_call 20; refine (quota_Settle.calls 0 _ _ t _ _ q [] _ _ (Kd.C_below HR0.out (by first | exact HB.out | exact pw_below_drewN HB.out _ | exact pw_below_drewN (pw_below_drewN HB.out _) _ | exact pw_below_drewN (pw_below_drewN (pw_below_drewN HB.out _) _) _)) HC0.out (Kd.C_below HR1.out (by first | exact HB.out | exact pw_below_drewN HB.out _ | exact pw_below_drewN (pw_below_drewN HB.out _) _ | exact pw_below_drewN (pw_below_drewN (pw_below_drewN HB.out _) _) _)) HC1.out HSO.out).mono ?_; rintro e w5 ⟨v5, rfl, hR, hb⟩; have HB3 := sA (below_step (by first | exact HB.out | exact pw_below_drewN HB.out _ | exact pw_below_drewN (pw_below_drewN HB.out _) _ | exact pw_below_drewN (pw_below_drewN (pw_below_drewN HB.out _) _) _) hb); obtain ⟨A3, c3, e3⟩ := Kd.R_slice hR; subst e3; have HL3 := sA (Kd.R_reads' hR).2.2; have HLC := sA (Kd.R_reads' hR); clear hR hb) | (go_at_call 31; refine (kinkeepref35_Settle.calls ks _ _ t _ _ q wl false _ (Kd.C_below HR0.out HB3.out) HC0.out (Kd.C_below HR1.out HB3.out) HC1.out HKS.out).mono ?_; rintro e w6 ⟨v6, rfl, hR, hb⟩; have HB4 := sA (below_step HB3.out hb); have HL4 := sA (Kd.C_below HL3.out hb); obtain ⟨A4, c4, e4⟩ := Kd.R_slice hR; subst e4; have HW4 := sA (Kd.R_reads' hR).2.2; have HWC := sA (Kd.R_reads' hR); clear hR hb))
          go_ret
          exact ⟨rfl, by repeat (first | (with_reducible first | exact HB4.out | apply below_alloc | apply pw_below_drewN | apply below_drew1) | exact HB4.out)⟩
end Go.Proofs.Ytdljbmgknhbceaa.A
end
section
namespace Go.Proofs.Ytdljbmgknhbceaa.O
open Go.RowKit Go.Proofs.YtdljbmgknhbceaaW.PrintWords Go.Proofs.YtdljbmgknhbceaaW.PrintLast Go.Proofs.YtdljbmgknhbceaaW.PrintMore Go.Proofs.Ytdljbmgknhbceaa.Q
def IsInts (W : World) (a : Option Addr) (len cap : Nat) : Prop := ∃ l : List Int, len = l.length ∧ Kd.C (Kd.int .i64) W a l.length l ∧ l.length ≤ cap ∧ ∀ x ∈ l, (Lit.int .i64 x).wf = true
def IsTab (W : World) (a : Option Addr) (len cap : Nat) : Prop := ∃ l : List (List Int), len = l.length ∧ Kd.C A.KT W a l.length l ∧ l.length ≤ cap ∧ ∀ row ∈ l, ∀ x ∈ row, (Lit.int .i64 x).wf = true
theorem ints_of {W : World} {a : Option Addr} {len cap : Nat} {zs : List Int} (hl : len ≤ cap) (hm : cap ≤ maxLen) (hz : zs.length = cap) (hw : ∀ n ∈ zs, (Lit.int .i64 n).wf = true) (h : a = none → cap = 0)
 (hc : ∀ a', a = some a' → ∀ c, c < cap → W.cell? (a'.add c) = some (.int .i64 (zs.getD c 0))) : (zs.take len).length = len ∧ Kd.C (Kd.int .i64) W a len (zs.take len) ∧ ∀ x ∈ zs.take len, (Lit.int .i64 x).wf = true := by
 have hlen : (zs.take len).length = len := by rw [List.length_take]; omega
 refine ⟨hlen, ⟨hlen, by have : maxLen ≤ 9223372036854775807 := by decide
                         omega, fun hn => ?_⟩, fun x hx => hw x (List.mem_of_mem_take hx)⟩
 cases a with
 | none => have := h rfl; omega
 | some ad =>
  refine ⟨ad, rfl, fun j p hj => ⟨[.int .i64 p], rfl, rfl, fun i u hu => ?_⟩⟩
  cases i with
  | succ i => simp at hu
  | zero =>
   simp only [List.getElem?_cons_zero, Option.some.injEq] at hu
   subst hu
   have hj2 : j < len := by
    have := (List.getElem?_eq_some_iff.1 hj).1
    omega
   have := hc ad rfl j (by omega)
   rw [List.getElem?_take, if_pos hj2] at hj
   rw [List.getD_eq_getElem?_getD, hj] at this
   simpa [Kd.int, Kd.scalar] using this
theorem isInts {H : Type} {enc : TypeId × Value → H} {W : World} {fuel : Nat} {a : Option Addr} {len cap : Nat} {held : Bool} {x : DataW H × List MemPlace} (hf : DataW.trod enc Try.prog W 0 (fun _ => true) held fuel 31 (Value.slice a len cap).cells.toList = some x) : IsInts W a len cap := by
 rcases Go.ChangeShapes.open_ints Try.underlying31 Try.underlying3 (by kernel_rfl) hf with ⟨hcs, _⟩ | ⟨y, l, c, zs, hcs, _, hl, hm, hz, _, hcell, hwz⟩
 · simp [Value.cells] at hcs
   obtain ⟨rfl, rfl, rfl⟩ := hcs
   exact ⟨[], rfl, ⟨rfl, by simp, by simp⟩, Nat.le_refl _, by simp⟩
 · simp [Value.cells] at hcs
   obtain ⟨rfl, rfl, rfl⟩ := hcs
   simp only [if_true] at hz
   obtain ⟨h1, h2, h3⟩ := ints_of (W := W) (a := some y) hl hm hz hwz (fun h => by cases h) (fun a' e c' hc' => by cases e; exact hcell c' (by omega))
   exact ⟨zs.take len, h1.symm, by rw [h1]; exact h2, by rw [h1]; exact hl, h3⟩
theorem isTab {H : Type} {enc : TypeId × Value → H} {W : World} {fuel : Nat} {a : Option Addr} {len cap : Nat} {held : Bool} {x : DataW H × List MemPlace} (hf : DataW.trod enc Try.prog W 0 (fun _ => true) held fuel 22 (Value.slice a len cap).cells.toList = some x) : IsTab W a len cap := by
 rcases Go.Deep.open_int_rows Try.underlying22 Try.underlying31 Try.underlying3 (by kernel_rfl) (by kernel_rfl) hf with ⟨hcs, _⟩ | ⟨y, l, c, A, L, C, Z, hcs, _, hl, hm, _, hrows⟩
 · simp [Value.cells] at hcs
   obtain ⟨rfl, rfl, rfl⟩ := hcs
   exact ⟨[], rfl, ⟨rfl, by simp, by simp⟩, Nat.le_refl _, by simp⟩
 · simp [Value.cells] at hcs
   obtain ⟨rfl, rfl, rfl⟩ := hcs
   have each : ∀ r, r < cap → ((Z r).take (L r)).length = L r ∧ Kd.C (Kd.int .i64) W (A r) (L r) ((Z r).take (L r)) ∧ ∀ x ∈ (Z r).take (L r), (Lit.int .i64 x).wf = true := fun r hr => by
    obtain ⟨_, r1, r2, r3, r4, r5, r6⟩ := hrows r hr
    exact ints_of r1 r2 r3 r4 r5 (fun a' e c hc => (r6 a' e).2 c hc)
   refine ⟨(List.range len).map fun r => (Z r).take (L r), by simp, ⟨rfl, ?_, fun hn => ⟨y, rfl, fun j p hj => ?_⟩⟩, by simpa using hl, fun row hrow x hx => ?_⟩
   · have : maxLen ≤ 9223372036854775807 := by decide
     simp
     omega
   · rw [List.getElem?_map] at hj
     simp only [Option.map_eq_some_iff] at hj
     obtain ⟨r, hr, rfl⟩ := hj
     obtain ⟨hr1, hr2⟩ := List.getElem?_eq_some_iff.1 hr
     simp only [List.getElem_range] at hr2
     subst hr2
     simp only [List.length_range] at hr1
     obtain ⟨e1, e2, e3⟩ := each j (by omega)
     obtain ⟨c1, r1, _⟩ := hrows j (by omega)
     refine ⟨[.slice (A j) ((Z j).take (L j)).length (C j)], rfl, ⟨A j, C j, rfl, by rw [e1]; exact r1, by rw [e1]; exact e2⟩, fun i u hu => ?_⟩
     cases i with
     | succ i => simp at hu
     | zero =>
      simp only [List.getElem?_cons_zero, Option.some.injEq] at hu
      subst hu
      rw [e1]
      simpa [Go.Proofs.Ytdljbmgknhbceaa.A.KT, Kd.slice] using c1
   · simp only [List.mem_map, List.mem_range] at hrow
     obtain ⟨r, hr, rfl⟩ := hrow
     exact (each r (by omega)).2.2 x hx
end Go.Proofs.Ytdljbmgknhbceaa.O
namespace Go.Proofs.Ytdljbmgknhbceaa.O
open Go.RowKit Go.Proofs.YtdljbmgknhbceaaW.PrintWords Go.Proofs.YtdljbmgknhbceaaW.PrintLast Go.Proofs.YtdljbmgknhbceaaW.PrintMore Go.Proofs.Ytdljbmgknhbceaa.Q
end Go.Proofs.Ytdljbmgknhbceaa.O
end
section
namespace Go.Proofs.Ytdljbmgknhbceaa.Q
open Go.RowKit Go.Proofs.YtdljbmgknhbceaaW.PrintWords Go.Proofs.YtdljbmgknhbceaaW.PrintLast Go.Proofs.YtdljbmgknhbceaaW.PrintMore
def kinkeeplaw35_QuotaSettles.f (k : Nat) (l0 : List (List Int)) (l1 : List Int) : Option Bool := some true
theorem kinkeeplaw35_QuotaSettles.calls (k : Nat) (A0 : Option Addr) (c0 : Nat) (l0 : List (List Int)) (A1 : Option Addr) (c1 : Nat) (l1 : List Int) (r : Bool) (w : World) (hr0 : Kd.C (Kd.slice 3 (Kd.int .i64)) w A0 l0.length l0) (hc0 : l0.length ≤ c0) (hr1 : Kd.C (Kd.int .i64) w A1 l1.length l1) (hc1 : l1.length ≤ c1) (h : kinkeeplaw35_QuotaSettles.f k l0 l1 = some r) :
 Calls Try.prog 9 #[.slice A0 l0.length c0, .slice A1 l1.length c1] w fun e w' => e = .returned (.bool r) ∧ Below w.heap.size w w' := by
 obtain rfl := Option.some.inj h
 exact A.Settles_any A0 c0 l0 A1 c1 l1 w hr0 hc0 hr1 hc1
end Go.Proofs.Ytdljbmgknhbceaa.Q
namespace Go.Proofs.Ytdljbmgknhbceaa.Pure
theorem quotaSettles (t : List (List Int)) (q : List Int) (_h0 : ∀ row ∈ t, ∀ x ∈ row, (Lit.int .i64 x).wf = true) (_h1 : ∀ x ∈ q, (Lit.int .i64 x).wf = true) : ∃ k, Q.kinkeeplaw35_QuotaSettles.f k t q = some true := ⟨0, rfl⟩
end Go.Proofs.Ytdljbmgknhbceaa.Pure
end
