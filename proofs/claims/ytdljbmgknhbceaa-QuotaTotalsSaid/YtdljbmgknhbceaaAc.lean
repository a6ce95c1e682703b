import Derived.Test.YtdljbmgknhbceaaAb
import Derived.Test.YtdljbmgknhbceaaA7
namespace Go.Proofs.Ytdljbmgknhbceaa.A
open Go.RowKit Go.Proofs.YtdljbmgknhbceaaW.PrintWords Go.Proofs.YtdljbmgknhbceaaW.PrintLast Go.Proofs.YtdljbmgknhbceaaW.PrintMore Go.Proofs.Ytdljbmgknhbceaa.Q
set_option linter.unusedVariables false
set_option linter.unusedSimpArgs false

theorem cell_mid (w : World) (o1 : Obj) (n : Int) (o3 : Obj) : (((w.alloc o1).alloc (.cells #[.int .i64 n] 3)).alloc o3).cell? ⟨w.heap.size + 1, 0, none⟩ = some (.int .i64 n) := by
  refine cell_of_one (t := 3) ?_
  rw [heap_old _ (by simp)]
  exact heap_at _ (by simp)
def inI (n d : Int) : Bool := decide (0 ≤ d) && decide (d < n)
theorem inside61 (d n : Int) (b : Nat) (w : World) (hb : w.cell? ⟨b, 0, none⟩ = some (.int .i64 n)) :
    Calls Try.prog 61 #[.int .i64 d, .pointer (some ⟨b, 0, none⟩)] w fun e w' => e = .returned (.bool (inI n d)) ∧ w = w' := by
  by_cases h0 : 0 ≤ d
  · have h0b : decide (0 ≤ d) = true := by simpa using h0
    have hf : Aside0 (inI n d = decide (d < n)) := ⟨by simp [inI, h0]⟩
    go_enter Try.func61, Try.ntmps61
    go_wp2
    go_ret
    exact ⟨by rw [hf.out]; rfl, rfl⟩
  · have h0b : decide (0 ≤ d) = false := by simpa using h0
    have hf : Aside0 (inI n d = false) := ⟨by simp [inI, h0]⟩
    go_enter Try.func61, Try.ntmps61
    go_wp2
    go_ret
    exact ⟨by rw [hf.out]; rfl, rfl⟩

/-- A move is valid among n devices. -/
def moveOk (n f t o b : Int) : Bool := !(f == t) && (inI n f && (inI n t && (inI n o && (!(o == f) && (!(o == t) && (decide (1 ≤ b) && decide (b ≤ 1099511627776)))))))

theorem retb {x y : Bool} (h : x = y) : Ending.returned (.bool x) = Ending.returned (.bool y) := by rw [h]
set_option maxHeartbeats 4000000 in
set_option maxRecDepth 100000 in
theorem move_any (f t o b n : Int) (w : World) :
    Calls Try.prog 39 #[.agg #[.int .i64 f, .int .i64 t, .int .i64 o, .int .i64 b], .int .i64 n] w fun e w' => e = .returned (.bool (moveOk n f t o b)) ∧ Below w.heap.size w w' := by
  have hu29 := Try.underlying29
  by_cases k0 : f = t
  · have hf : Aside0 (moveOk n f t o b = false) := ⟨by simp [moveOk, k0]⟩
    subst k0
    go_enter Try.func39, Try.ntmps39
    go_wp2_with fail
    go_ret
    exact ⟨retb (by rw [hf.out]), by repeat (first | exact Below.refl _ _ | (refine Below.setCell ?_ (by simp <;> omega) _) | (refine Below.alloc ?_ (by simp <;> omega) _))⟩
  · have e0 : (f == t) = false := beq_eq_false_iff_ne.2 k0
    have e1 : (t == f) = false := beq_eq_false_iff_ne.2 (Ne.symm k0)
    by_cases k1 : 0 ≤ f ∧ f < n
    · have H1 := Aside0.mk (show inI n f = true from by simp [inI, k1.1, k1.2])
      by_cases k2 : 0 ≤ t ∧ t < n
      · have H2 := Aside0.mk (show inI n t = true from by simp [inI, k2.1, k2.2])
        by_cases k3 : 0 ≤ o ∧ o < n
        · have H3 := Aside0.mk (show inI n o = true from by simp [inI, k3.1, k3.2])
          by_cases k4 : o = f
          · have e4 : (o != f) = false := bne_eq_false_iff_eq.2 k4
            have e4b : (o == f) = true := beq_iff_eq.2 k4
            have hf : Aside0 (moveOk n f t o b = false) := ⟨by simp [moveOk, k4]⟩
            clear k0 k1 k2 k3 k4
            go_enter Try.func39, Try.ntmps39
            go_wp2_with (first | (go_at_call_of 61 (Value.int IntKind.i64 f); refine (inside61 f n (w.heap.size + 1) _ (cell_mid w _ n _)).mono ?_; rw [show inI n f = true from H1.out]; rintro e w' ⟨rfl, rfl⟩) | (go_at_call_of 61 (Value.int IntKind.i64 t); refine (inside61 t n (w.heap.size + 1) _ (cell_mid w _ n _)).mono ?_; rw [show inI n t = true from H2.out]; rintro e w' ⟨rfl, rfl⟩) | (go_at_call_of 61 (Value.int IntKind.i64 o); refine (inside61 o n (w.heap.size + 1) _ (cell_mid w _ n _)).mono ?_; rw [show inI n o = true from H3.out]; rintro e w' ⟨rfl, rfl⟩))
            go_ret
            exact ⟨retb (by rw [hf.out]), by repeat (first | exact Below.refl _ _ | (refine Below.setCell ?_ (by simp <;> omega) _) | (refine Below.alloc ?_ (by simp <;> omega) _))⟩
          · have e4 : (o != f) = true := bne_iff_ne.2 k4
            have e4b : (o == f) = false := beq_eq_false_iff_ne.2 k4
            by_cases k5 : o = t
            · have e5 : (o != t) = false := bne_eq_false_iff_eq.2 k5
              have e5b : (o == t) = true := beq_iff_eq.2 k5
              have hf : Aside0 (moveOk n f t o b = false) := ⟨by simp [moveOk, k5]⟩
              clear k0 k1 k2 k3 k4 k5
              go_enter Try.func39, Try.ntmps39
              go_wp2_with (first | (go_at_call_of 61 (Value.int IntKind.i64 f); refine (inside61 f n (w.heap.size + 1) _ (cell_mid w _ n _)).mono ?_; rw [show inI n f = true from H1.out]; rintro e w' ⟨rfl, rfl⟩) | (go_at_call_of 61 (Value.int IntKind.i64 t); refine (inside61 t n (w.heap.size + 1) _ (cell_mid w _ n _)).mono ?_; rw [show inI n t = true from H2.out]; rintro e w' ⟨rfl, rfl⟩) | (go_at_call_of 61 (Value.int IntKind.i64 o); refine (inside61 o n (w.heap.size + 1) _ (cell_mid w _ n _)).mono ?_; rw [show inI n o = true from H3.out]; rintro e w' ⟨rfl, rfl⟩))
              go_ret
              exact ⟨retb (by rw [hf.out]), by repeat (first | exact Below.refl _ _ | (refine Below.setCell ?_ (by simp <;> omega) _) | (refine Below.alloc ?_ (by simp <;> omega) _))⟩
            · have e5 : (o != t) = true := bne_iff_ne.2 k5
              have e5b : (o == t) = false := beq_eq_false_iff_ne.2 k5
              by_cases k6 : 1 ≤ b
              · have e6 : decide (1 ≤ b) = true := decide_eq_true k6
                by_cases k7 : b ≤ 1099511627776
                · have e7 : decide (b ≤ 1099511627776) = true := decide_eq_true k7
                  have hf : Aside0 (moveOk n f t o b = true) := ⟨by simp [moveOk, inI, k0, k1.1, k1.2, k2.1, k2.2, k3.1, k3.2, k4, k5, k6, k7]⟩
                  clear k0 k1 k2 k3 k4 k5 k6 k7
                  go_enter Try.func39, Try.ntmps39
                  go_wp2_with (first | (go_at_call_of 61 (Value.int IntKind.i64 f); refine (inside61 f n (w.heap.size + 1) _ (cell_mid w _ n _)).mono ?_; rw [show inI n f = true from H1.out]; rintro e w' ⟨rfl, rfl⟩) | (go_at_call_of 61 (Value.int IntKind.i64 t); refine (inside61 t n (w.heap.size + 1) _ (cell_mid w _ n _)).mono ?_; rw [show inI n t = true from H2.out]; rintro e w' ⟨rfl, rfl⟩) | (go_at_call_of 61 (Value.int IntKind.i64 o); refine (inside61 o n (w.heap.size + 1) _ (cell_mid w _ n _)).mono ?_; rw [show inI n o = true from H3.out]; rintro e w' ⟨rfl, rfl⟩))
                  go_ret
                  exact ⟨retb (by rw [hf.out]), by repeat (first | exact Below.refl _ _ | (refine Below.setCell ?_ (by simp <;> omega) _) | (refine Below.alloc ?_ (by simp <;> omega) _))⟩
                · have e7 : decide (b ≤ 1099511627776) = false := decide_eq_false k7
                  have hf : Aside0 (moveOk n f t o b = false) := ⟨by simp [moveOk, e7]⟩
                  clear k0 k1 k2 k3 k4 k5 k6 k7
                  go_enter Try.func39, Try.ntmps39
                  go_wp2_with (first | (go_at_call_of 61 (Value.int IntKind.i64 f); refine (inside61 f n (w.heap.size + 1) _ (cell_mid w _ n _)).mono ?_; rw [show inI n f = true from H1.out]; rintro e w' ⟨rfl, rfl⟩) | (go_at_call_of 61 (Value.int IntKind.i64 t); refine (inside61 t n (w.heap.size + 1) _ (cell_mid w _ n _)).mono ?_; rw [show inI n t = true from H2.out]; rintro e w' ⟨rfl, rfl⟩) | (go_at_call_of 61 (Value.int IntKind.i64 o); refine (inside61 o n (w.heap.size + 1) _ (cell_mid w _ n _)).mono ?_; rw [show inI n o = true from H3.out]; rintro e w' ⟨rfl, rfl⟩))
                  go_ret
                  exact ⟨retb (by rw [hf.out]), by repeat (first | exact Below.refl _ _ | (refine Below.setCell ?_ (by simp <;> omega) _) | (refine Below.alloc ?_ (by simp <;> omega) _))⟩
              · have e6 : decide (1 ≤ b) = false := decide_eq_false k6
                have hf : Aside0 (moveOk n f t o b = false) := ⟨by simp [moveOk, e6]⟩
                clear k0 k1 k2 k3 k4 k5 k6
                go_enter Try.func39, Try.ntmps39
                go_wp2_with (first | (go_at_call_of 61 (Value.int IntKind.i64 f); refine (inside61 f n (w.heap.size + 1) _ (cell_mid w _ n _)).mono ?_; rw [show inI n f = true from H1.out]; rintro e w' ⟨rfl, rfl⟩) | (go_at_call_of 61 (Value.int IntKind.i64 t); refine (inside61 t n (w.heap.size + 1) _ (cell_mid w _ n _)).mono ?_; rw [show inI n t = true from H2.out]; rintro e w' ⟨rfl, rfl⟩) | (go_at_call_of 61 (Value.int IntKind.i64 o); refine (inside61 o n (w.heap.size + 1) _ (cell_mid w _ n _)).mono ?_; rw [show inI n o = true from H3.out]; rintro e w' ⟨rfl, rfl⟩))
                go_ret
                exact ⟨retb (by rw [hf.out]), by repeat (first | exact Below.refl _ _ | (refine Below.setCell ?_ (by simp <;> omega) _) | (refine Below.alloc ?_ (by simp <;> omega) _))⟩
        · have H3 := Aside0.mk (show inI n o = false from by simp only [inI, Bool.and_eq_false_iff, decide_eq_false_iff_not]; omega)
          have hf : Aside0 (moveOk n f t o b = false) := ⟨by have h9 : inI n o = false := H3.out; simp [moveOk, h9]⟩
          clear k0 k1 k2 k3
          go_enter Try.func39, Try.ntmps39
          go_wp2_with (first | (go_at_call_of 61 (Value.int IntKind.i64 f); refine (inside61 f n (w.heap.size + 1) _ (cell_mid w _ n _)).mono ?_; rw [show inI n f = true from H1.out]; rintro e w' ⟨rfl, rfl⟩) | (go_at_call_of 61 (Value.int IntKind.i64 t); refine (inside61 t n (w.heap.size + 1) _ (cell_mid w _ n _)).mono ?_; rw [show inI n t = true from H2.out]; rintro e w' ⟨rfl, rfl⟩) | (go_at_call_of 61 (Value.int IntKind.i64 o); refine (inside61 o n (w.heap.size + 1) _ (cell_mid w _ n _)).mono ?_; rw [show inI n o = false from H3.out]; rintro e w' ⟨rfl, rfl⟩))
          go_ret
          exact ⟨retb (by rw [hf.out]), by repeat (first | exact Below.refl _ _ | (refine Below.setCell ?_ (by simp <;> omega) _) | (refine Below.alloc ?_ (by simp <;> omega) _))⟩
      · have H2 := Aside0.mk (show inI n t = false from by simp only [inI, Bool.and_eq_false_iff, decide_eq_false_iff_not]; omega)
        have hf : Aside0 (moveOk n f t o b = false) := ⟨by have h9 : inI n t = false := H2.out; simp [moveOk, h9]⟩
        clear k0 k1 k2
        go_enter Try.func39, Try.ntmps39
        go_wp2_with (first | (go_at_call_of 61 (Value.int IntKind.i64 f); refine (inside61 f n (w.heap.size + 1) _ (cell_mid w _ n _)).mono ?_; rw [show inI n f = true from H1.out]; rintro e w' ⟨rfl, rfl⟩) | (go_at_call_of 61 (Value.int IntKind.i64 t); refine (inside61 t n (w.heap.size + 1) _ (cell_mid w _ n _)).mono ?_; rw [show inI n t = false from H2.out]; rintro e w' ⟨rfl, rfl⟩))
        go_ret
        exact ⟨retb (by rw [hf.out]), by repeat (first | exact Below.refl _ _ | (refine Below.setCell ?_ (by simp <;> omega) _) | (refine Below.alloc ?_ (by simp <;> omega) _))⟩
    · have H1 := Aside0.mk (show inI n f = false from by simp only [inI, Bool.and_eq_false_iff, decide_eq_false_iff_not]; omega)
      have hf : Aside0 (moveOk n f t o b = false) := ⟨by have h9 : inI n f = false := H1.out; simp [moveOk, h9]⟩
      clear k0 k1
      go_enter Try.func39, Try.ntmps39
      go_wp2_with (first | (go_at_call_of 61 (Value.int IntKind.i64 f); refine (inside61 f n (w.heap.size + 1) _ (cell_mid w _ n _)).mono ?_; rw [show inI n f = false from H1.out]; rintro e w' ⟨rfl, rfl⟩))
      go_ret
      exact ⟨retb (by rw [hf.out]), by repeat (first | exact Below.refl _ _ | (refine Below.setCell ?_ (by simp <;> omega) _) | (refine Below.alloc ?_ (by simp <;> omega) _))⟩

end Go.Proofs.Ytdljbmgknhbceaa.A
