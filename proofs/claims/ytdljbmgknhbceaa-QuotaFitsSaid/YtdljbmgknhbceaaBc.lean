import Derived.Test.YtdljbmgknhbceaaBa
import Derived.Test.YtdljbmgknhbceaaBb
import Derived.StillTailTactics
import Derived.IntWalk
namespace Go.Proofs.Ytdljbmgknhbceaa.A
open Go.RowKit Go.Proofs.YtdljbmgknhbceaaW.PrintWords Go.Proofs.YtdljbmgknhbceaaW.PrintLast Go.Proofs.YtdljbmgknhbceaaW.PrintMore Go.Proofs.Ytdljbmgknhbceaa.Q
set_option linter.unusedVariables false
set_option linter.unusedSimpArgs false

theorem cell_mid (w : World) (o1 : Obj) (n : Int) (o3 : Obj) : (((w.alloc o1).alloc (.cells #[.int .i64 n] 3)).alloc o3).cell? ⟨w.heap.size + 1, 0, none⟩ = some (.int .i64 n) := by
  refine cell_of_one (t := 3) ?_
  rw [heap_old _ (by simp)]
  exact heap_at _ (by simp)
def inI (n d : Int) : Bool := decide (0 ≤ d) && decide (d < n)
theorem inside61 (d n : Int) (b : Nat) (w : World) (hb : w.cell? ⟨b, 0, none⟩ = some (.int .i64 n)) :
    Calls Try.prog 61 #[.int .i64 d, .pointer (some ⟨b, 0, none⟩)] w fun e w' => e = .returned (.bool (inI n d)) ∧ w = w' := by
  by_cases h0 : 0 ≤ d
  · have h0b : decide (0 ≤ d) = true := by simpa using h0
    have hf : Aside0 (inI n d = decide (d < n)) := ⟨by simp [inI, h0]⟩
    go_enter Try.func61, Try.ntmps61
    go_wp2
    go_ret
    exact ⟨by rw [hf.out]; rfl, rfl⟩
  · have h0b : decide (0 ≤ d) = false := by simpa using h0
    have hf : Aside0 (inI n d = false) := ⟨by simp [inI, h0]⟩
    go_enter Try.func61, Try.ntmps61
    go_wp2
    go_ret
    exact ⟨by rw [hf.out]; rfl, rfl⟩

/-- A move is valid among n devices. -/
def moveOk (n f t o b : Int) : Bool := !(f == t) && (inI n f && (inI n t && (inI n o && (!(o == f) && (!(o == t) && (decide (1 ≤ b) && decide (b ≤ 1099511627776)))))))

theorem retb {x y : Bool} (h : x = y) : Ending.returned (.bool x) = Ending.returned (.bool y) := by rw [h]
set_option maxHeartbeats 4000000 in
set_option maxRecDepth 100000 in
theorem move_any (f t o b n : Int) (w : World) :
    Calls Try.prog 39 #[.agg #[.int .i64 f, .int .i64 t, .int .i64 o, .int .i64 b], .int .i64 n] w fun e w' => e = .returned (.bool (moveOk n f t o b)) ∧ Below w.heap.size w w' := by
  have hu29 := Try.underlying29
  by_cases k0 : f = t
  · have hf : Aside0 (moveOk n f t o b = false) := ⟨by simp [moveOk, k0]⟩
    subst k0
    go_enter Try.func39, Try.ntmps39
    go_wp2_with fail
    go_ret
    exact ⟨retb (by rw [hf.out]), by repeat (first | exact Below.refl _ _ | (refine Below.setCell ?_ (by simp <;> omega) _) | (refine Below.alloc ?_ (by simp <;> omega) _))⟩
  · have e0 : (f == t) = false := beq_eq_false_iff_ne.2 k0
    have e1 : (t == f) = false := beq_eq_false_iff_ne.2 (Ne.symm k0)
    by_cases k1 : 0 ≤ f ∧ f < n
    · have H1 := Aside0.mk (show inI n f = true from by simp [inI, k1.1, k1.2])
      by_cases k2 : 0 ≤ t ∧ t < n
      · have H2 := Aside0.mk (show inI n t = true from by simp [inI, k2.1, k2.2])
        by_cases k3 : 0 ≤ o ∧ o < n
        · have H3 := Aside0.mk (show inI n o = true from by simp [inI, k3.1, k3.2])
          by_cases k4 : o = f
          · have e4 : (o != f) = false := bne_eq_false_iff_eq.2 k4
            have e4b : (o == f) = true := beq_iff_eq.2 k4
            have hf : Aside0 (moveOk n f t o b = false) := ⟨by simp [moveOk, k4]⟩
            clear k0 k1 k2 k3 k4
            go_enter Try.func39, Try.ntmps39
            go_wp2_with (first | (go_at_call_of 61 (Value.int IntKind.i64 f); refine (inside61 f n (w.heap.size + 1) _ (cell_mid w _ n _)).mono ?_; rw [show inI n f = true from H1.out]; rintro e w' ⟨rfl, rfl⟩) | (go_at_call_of 61 (Value.int IntKind.i64 t); refine (inside61 t n (w.heap.size + 1) _ (cell_mid w _ n _)).mono ?_; rw [show inI n t = true from H2.out]; rintro e w' ⟨rfl, rfl⟩) | (go_at_call_of 61 (Value.int IntKind.i64 o); refine (inside61 o n (w.heap.size + 1) _ (cell_mid w _ n _)).mono ?_; rw [show inI n o = true from H3.out]; rintro e w' ⟨rfl, rfl⟩))
            go_ret
            exact ⟨retb (by rw [hf.out]), by repeat (first | exact Below.refl _ _ | (refine Below.setCell ?_ (by simp <;> omega) _) | (refine Below.alloc ?_ (by simp <;> omega) _))⟩
          · have e4 : (o != f) = true := bne_iff_ne.2 k4
            have e4b : (o == f) = false := beq_eq_false_iff_ne.2 k4
            by_cases k5 : o = t
            · have e5 : (o != t) = false := bne_eq_false_iff_eq.2 k5
              have e5b : (o == t) = true := beq_iff_eq.2 k5
              have hf : Aside0 (moveOk n f t o b = false) := ⟨by simp [moveOk, k5]⟩
              clear k0 k1 k2 k3 k4 k5
              go_enter Try.func39, Try.ntmps39
              go_wp2_with (first | (go_at_call_of 61 (Value.int IntKind.i64 f); refine (inside61 f n (w.heap.size + 1) _ (cell_mid w _ n _)).mono ?_; rw [show inI n f = true from H1.out]; rintro e w' ⟨rfl, rfl⟩) | (go_at_call_of 61 (Value.int IntKind.i64 t); refine (inside61 t n (w.heap.size + 1) _ (cell_mid w _ n _)).mono ?_; rw [show inI n t = true from H2.out]; rintro e w' ⟨rfl, rfl⟩) | (go_at_call_of 61 (Value.int IntKind.i64 o); refine (inside61 o n (w.heap.size + 1) _ (cell_mid w _ n _)).mono ?_; rw [show inI n o = true from H3.out]; rintro e w' ⟨rfl, rfl⟩))
              go_ret
              exact ⟨retb (by rw [hf.out]), by repeat (first | exact Below.refl _ _ | (refine Below.setCell ?_ (by simp <;> omega) _) | (refine Below.alloc ?_ (by simp <;> omega) _))⟩
            · have e5 : (o != t) = true := bne_iff_ne.2 k5
              have e5b : (o == t) = false := beq_eq_false_iff_ne.2 k5
              by_cases k6 : 1 ≤ b
              · have e6 : decide (1 ≤ b) = true := decide_eq_true k6
                by_cases k7 : b ≤ 1099511627776
                · have e7 : decide (b ≤ 1099511627776) = true := decide_eq_true k7
                  have hf : Aside0 (moveOk n f t o b = true) := ⟨by simp [moveOk, inI, k0, k1.1, k1.2, k2.1, k2.2, k3.1, k3.2, k4, k5, k6, k7]⟩
                  clear k0 k1 k2 k3 k4 k5 k6 k7
                  go_enter Try.func39, Try.ntmps39
                  go_wp2_with (first | (go_at_call_of 61 (Value.int IntKind.i64 f); refine (inside61 f n (w.heap.size + 1) _ (cell_mid w _ n _)).mono ?_; rw [show inI n f = true from H1.out]; rintro e w' ⟨rfl, rfl⟩) | (go_at_call_of 61 (Value.int IntKind.i64 t); refine (inside61 t n (w.heap.size + 1) _ (cell_mid w _ n _)).mono ?_; rw [show inI n t = true from H2.out]; rintro e w' ⟨rfl, rfl⟩) | (go_at_call_of 61 (Value.int IntKind.i64 o); refine (inside61 o n (w.heap.size + 1) _ (cell_mid w _ n _)).mono ?_; rw [show inI n o = true from H3.out]; rintro e w' ⟨rfl, rfl⟩))
                  go_ret
                  exact ⟨retb (by rw [hf.out]), by repeat (first | exact Below.refl _ _ | (refine Below.setCell ?_ (by simp <;> omega) _) | (refine Below.alloc ?_ (by simp <;> omega) _))⟩
                · have e7 : decide (b ≤ 1099511627776) = false := decide_eq_false k7
                  have hf : Aside0 (moveOk n f t o b = false) := ⟨by simp [moveOk, e7]⟩
                  clear k0 k1 k2 k3 k4 k5 k6 k7
                  go_enter Try.func39, Try.ntmps39
                  go_wp2_with (first | (go_at_call_of 61 (Value.int IntKind.i64 f); refine (inside61 f n (w.heap.size + 1) _ (cell_mid w _ n _)).mono ?_; rw [show inI n f = true from H1.out]; rintro e w' ⟨rfl, rfl⟩) | (go_at_call_of 61 (Value.int IntKind.i64 t); refine (inside61 t n (w.heap.size + 1) _ (cell_mid w _ n _)).mono ?_; rw [show inI n t = true from H2.out]; rintro e w' ⟨rfl, rfl⟩) | (go_at_call_of 61 (Value.int IntKind.i64 o); refine (inside61 o n (w.heap.size + 1) _ (cell_mid w _ n _)).mono ?_; rw [show inI n o = true from H3.out]; rintro e w' ⟨rfl, rfl⟩))
                  go_ret
                  exact ⟨retb (by rw [hf.out]), by repeat (first | exact Below.refl _ _ | (refine Below.setCell ?_ (by simp <;> omega) _) | (refine Below.alloc ?_ (by simp <;> omega) _))⟩
              · have e6 : decide (1 ≤ b) = false := decide_eq_false k6
                have hf : Aside0 (moveOk n f t o b = false) := ⟨by simp [moveOk, e6]⟩
                clear k0 k1 k2 k3 k4 k5 k6
                go_enter Try.func39, Try.ntmps39
                go_wp2_with (first | (go_at_call_of 61 (Value.int IntKind.i64 f); refine (inside61 f n (w.heap.size + 1) _ (cell_mid w _ n _)).mono ?_; rw [show inI n f = true from H1.out]; rintro e w' ⟨rfl, rfl⟩) | (go_at_call_of 61 (Value.int IntKind.i64 t); refine (inside61 t n (w.heap.size + 1) _ (cell_mid w _ n _)).mono ?_; rw [show inI n t = true from H2.out]; rintro e w' ⟨rfl, rfl⟩) | (go_at_call_of 61 (Value.int IntKind.i64 o); refine (inside61 o n (w.heap.size + 1) _ (cell_mid w _ n _)).mono ?_; rw [show inI n o = true from H3.out]; rintro e w' ⟨rfl, rfl⟩))
                go_ret
                exact ⟨retb (by rw [hf.out]), by repeat (first | exact Below.refl _ _ | (refine Below.setCell ?_ (by simp <;> omega) _) | (refine Below.alloc ?_ (by simp <;> omega) _))⟩
        · have H3 := Aside0.mk (show inI n o = false from by simp only [inI, Bool.and_eq_false_iff, decide_eq_false_iff_not]; omega)
          have hf : Aside0 (moveOk n f t o b = false) := ⟨by have h9 : inI n o = false := H3.out; simp [moveOk, h9]⟩
          clear k0 k1 k2 k3
          go_enter Try.func39, Try.ntmps39
          go_wp2_with (first | (go_at_call_of 61 (Value.int IntKind.i64 f); refine (inside61 f n (w.heap.size + 1) _ (cell_mid w _ n _)).mono ?_; rw [show inI n f = true from H1.out]; rintro e w' ⟨rfl, rfl⟩) | (go_at_call_of 61 (Value.int IntKind.i64 t); refine (inside61 t n (w.heap.size + 1) _ (cell_mid w _ n _)).mono ?_; rw [show inI n t = true from H2.out]; rintro e w' ⟨rfl, rfl⟩) | (go_at_call_of 61 (Value.int IntKind.i64 o); refine (inside61 o n (w.heap.size + 1) _ (cell_mid w _ n _)).mono ?_; rw [show inI n o = false from H3.out]; rintro e w' ⟨rfl, rfl⟩))
          go_ret
          exact ⟨retb (by rw [hf.out]), by repeat (first | exact Below.refl _ _ | (refine Below.setCell ?_ (by simp <;> omega) _) | (refine Below.alloc ?_ (by simp <;> omega) _))⟩
      · have H2 := Aside0.mk (show inI n t = false from by simp only [inI, Bool.and_eq_false_iff, decide_eq_false_iff_not]; omega)
        have hf : Aside0 (moveOk n f t o b = false) := ⟨by have h9 : inI n t = false := H2.out; simp [moveOk, h9]⟩
        clear k0 k1 k2
        go_enter Try.func39, Try.ntmps39
        go_wp2_with (first | (go_at_call_of 61 (Value.int IntKind.i64 f); refine (inside61 f n (w.heap.size + 1) _ (cell_mid w _ n _)).mono ?_; rw [show inI n f = true from H1.out]; rintro e w' ⟨rfl, rfl⟩) | (go_at_call_of 61 (Value.int IntKind.i64 t); refine (inside61 t n (w.heap.size + 1) _ (cell_mid w _ n _)).mono ?_; rw [show inI n t = false from H2.out]; rintro e w' ⟨rfl, rfl⟩))
        go_ret
        exact ⟨retb (by rw [hf.out]), by repeat (first | exact Below.refl _ _ | (refine Below.setCell ?_ (by simp <;> omega) _) | (refine Below.alloc ?_ (by simp <;> omega) _))⟩
    · have H1 := Aside0.mk (show inI n f = false from by simp only [inI, Bool.and_eq_false_iff, decide_eq_false_iff_not]; omega)
      have hf : Aside0 (moveOk n f t o b = false) := ⟨by have h9 : inI n f = false := H1.out; simp [moveOk, h9]⟩
      clear k0 k1
      go_enter Try.func39, Try.ntmps39
      go_wp2_with (first | (go_at_call_of 61 (Value.int IntKind.i64 f); refine (inside61 f n (w.heap.size + 1) _ (cell_mid w _ n _)).mono ?_; rw [show inI n f = false from H1.out]; rintro e w' ⟨rfl, rfl⟩))
      go_ret
      exact ⟨retb (by rw [hf.out]), by repeat (first | exact Below.refl _ _ | (refine Below.setCell ?_ (by simp <;> omega) _) | (refine Below.alloc ?_ (by simp <;> omega) _))⟩

end Go.Proofs.Ytdljbmgknhbceaa.A

namespace Go.Proofs.Ytdljbmgknhbceaa.A
open Go.RowKit Go.Proofs.YtdljbmgknhbceaaW.PrintWords Go.Proofs.YtdljbmgknhbceaaW.PrintLast Go.Proofs.YtdljbmgknhbceaaW.PrintMore Go.Proofs.Ytdljbmgknhbceaa.Q
set_option linter.unusedVariables false
set_option linter.unusedSimpArgs false

def mvOk (n : Nat) (m : S29) : Bool := moveOk n m.f0 m.f1 m.f2 m.f3
theorem bad38 (m : S29) (bt : Nat) (A : Option Addr) (n c : Nat) (w : World) (hb : w.cell? ⟨bt, 0, none⟩ = some (.slice A n c)) :
    Calls Try.prog 38 #[.agg #[.int .i64 m.f0, .int .i64 m.f1, .int .i64 m.f2, .int .i64 m.f3], .pointer (some ⟨bt, 0, none⟩)] w fun e w' => e = .returned (.bool (!mvOk n m)) ∧ Below w.heap.size w w' := by
  have hbl : bt < w.heap.size := World.block_lt_of_cell? w _ hb
  have hbn : bt ≠ w.heap.size := by omega
  obtain ⟨a0, a1, a2, a3⟩ := m
  have hu29 := Try.underlying29
  have hf : Aside0 (mvOk n ⟨a0, a1, a2, a3⟩ = moveOk n a0 a1 a2 a3) := ⟨rfl⟩
  go_enter Try.func38, Try.ntmps38
  go_wp2_with (go_at_call 39; refine (move_any _ _ _ _ _ _).mono ?_; rintro e w' ⟨rfl, hbl⟩; have HB := Aside0.mk hbl; clear hbl)
  go_ret
  exact ⟨by rw [hf.out]; rfl, ((Below.refl _ _).alloc (Nat.le_refl _) _).trans (HB.out.mono (by simp))⟩

def badMoveAt (n : Nat) : List S29 → Nat → Int
  | [], _ => -1
  | m :: ms, i => if mvOk n m then badMoveAt n ms (i + 1) else (i : Int)
def badMoves (n : Nat) (l : List S29) : Bool := l.any fun m => !mvOk n m
theorem badMoveAt_ge (n : Nat) (l : List S29) (i : Nat) : decide (0 ≤ badMoveAt n l i) = badMoves n l := by
  induction l generalizing i with
  | nil => rfl
  | cons x xs ih =>
    unfold badMoveAt badMoves
    cases h : mvOk n x with
    | true => simpa [badMoves, h] using ih (i + 1)
    | false => simp [h]
theorem badMoveAt_drop (n : Nat) (l : List S29) (k : Nat) (hk : k < l.length) : badMoveAt n (l.drop k) k = if mvOk n (rd_T29 l k) then badMoveAt n (l.drop (k + 1)) (k + 1) else (k : Int) := by
  rw [List.drop_eq_getElem_cons hk, badMoveAt]
  simp [rd_T29, List.getD_eq_getElem?_getD, List.getElem?_eq_getElem hk]

set_option maxHeartbeats 1000000 in
theorem index60 (A : Option Addr) (c : Nat) (l : List S29) (bt : Nat) (At : Option Addr) (n ct : Nat) (w : World) (hr : Kd.C k29 w A l.length l) (hb : w.cell? ⟨bt, 0, none⟩ = some (.slice At n ct)) :
    Calls Try.prog 60 #[.slice A l.length c, .func (.func 38) #[] #[.pointer (some ⟨bt, 0, none⟩)]] w fun e w' => e = .returned (.int .i64 (badMoveAt n l 0)) ∧ Below w.heap.size w w' := by
  have HR := Aside0.mk hr
  have hm : l.length ≤ 9223372036854775807 := hr.2.1
  have hbl : bt < w.heap.size := World.block_lt_of_cell? w _ hb
  have HBT := Aside0.mk hb
  have hu29 := Try.underlying29
  clear hr hb
  go_enter Try.func60, Try.ntmps60
  go_wp2
  go_loopw [8] (fun i w' => ∃ k : Nat, k ≤ l.length ∧ i = .int .i64 k ∧ Aside0 (badMoveAt n l 0 = badMoveAt n (l.drop k) k) ∧ Aside0 (Below w.heap.size w w')) (fun i _ => l.length - (intOf i).toNat)
  case atStart => exact ⟨0, by omega, rfl, ⟨rfl⟩, ⟨Below.refl _ _⟩⟩
  case round =>
    obtain ⟨k, hk, rfl, HE, HB⟩ := hrel
    by_cases hlt : k < l.length
    · obtain ⟨ad, e, hx0, hx1, hx2, hx3⟩ := at_T29 (Kd.C_below HR.out HB.out) k (by omega) (by omega)
      cases e
      rw [Int.toNat_natCast] at hx0 hx1 hx2 hx3
      have hs := Aside0.mk (badMoveAt_drop n l k hlt)
      have hbt : wr.cell? ⟨bt, 0, none⟩ = some (.slice At n ct) := (HB.out.cell (p := ⟨bt, 0, none⟩) hbl).trans HBT.out
      cases hb : mvOk n (rd_T29 l k) with
      | true =>
        have hb' := Aside0.mk hb
        clear hb
        go_wp2_with (go_at_call 38; refine (bad38 (rd_T29 l k) _ _ n _ _ hbt).mono ?_; rw [hb'.out]; rintro e w' ⟨rfl, hbb⟩; have HB2 := Aside0.mk (below_step HB.out hbb); clear hbb)
        go_roundw
        case rel => exact ⟨k + 1, by omega, by go_num, ⟨by rw [HE.out, hs.out, if_pos hb'.out]⟩, HB2⟩
        case measure => simp [intOf]; omega
      | false =>
        have hb' := Aside0.mk hb
        clear hb
        go_wp2_with (go_at_call 38; refine (bad38 (rd_T29 l k) _ _ n _ _ hbt).mono ?_; rw [hb'.out]; rintro e w' ⟨rfl, hbb⟩; have HB2 := Aside0.mk (below_step HB.out hbb); clear hbb)
        go_ret
        exact ⟨by rw [HE.out, hs.out, if_neg (by rw [hb'.out]; simp)]; rfl, HB2.out⟩
    · have hd : Aside0 (badMoveAt n l 0 = -1) := ⟨by rw [HE.out, List.drop_of_length_le (by omega)]; rfl⟩
      go_wp2
      go_ret
      exact ⟨by rw [hd.out]; rfl, HB.out⟩

theorem contains37 (A : Option Addr) (c : Nat) (l : List S29) (bt : Nat) (At : Option Addr) (n ct : Nat) (w : World) (hr : Kd.C k29 w A l.length l) (hb : w.cell? ⟨bt, 0, none⟩ = some (.slice At n ct)) :
    Calls Try.prog 37 #[.slice A l.length c, .func (.func 38) #[] #[.pointer (some ⟨bt, 0, none⟩)]] w fun e w' => e = .returned (.bool (badMoves n l)) ∧ Below w.heap.size w w' := by
  have HR := Aside0.mk hr
  have HBT := Aside0.mk hb
  clear hr hb
  have hb := Aside0.mk (badMoveAt_ge n l 0)
  go_enter Try.func37, Try.ntmps37
  go_wp2_with (go_at_call 60; refine (index60 _ _ _ _ _ n _ _ HR.out HBT.out).mono ?_; rintro e w' ⟨rfl, hbb⟩; have HB := Aside0.mk hbb; clear hbb)
  go_ret
  exact ⟨by rw [← hb.out]; rfl, HB.out⟩

end Go.Proofs.Ytdljbmgknhbceaa.A

namespace Go.Proofs.Ytdljbmgknhbceaa.A
open Go.RowKit Go.Proofs.YtdljbmgknhbceaaW.PrintWords Go.Proofs.YtdljbmgknhbceaaW.PrintLast Go.Proofs.YtdljbmgknhbceaaW.PrintMore Go.Proofs.Ytdljbmgknhbceaa.Q
set_option linter.unusedVariables false
set_option linter.unusedSimpArgs false

/-- A number of a table replaced. -/
def upd (t : List (List Int)) (i j x : Int) : List (List Int) := t.set i.toNat ((rd_L1 t i).set j.toNat x)
def get (t : List (List Int)) (i j : Int) : Int := rd (rd_L1 t i) j
def mv (t : List (List Int)) (m : S29) : List (List Int) :=
  let t1 := upd t m.f0 m.f2 (wrap64 (get t m.f0 m.f2 - m.f3))
  upd t1 m.f1 m.f2 (wrap64 (get t1 m.f1 m.f2 + m.f3))
def applyGo (t : List (List Int)) : List S29 → List (List Int) × Int
  | [] => (t, 0)
  | m :: ms => if get t m.f0 m.f2 < m.f3 then ([], 6) else if 1099511627776 - m.f3 < get t m.f1 m.f2 then ([], 2) else applyGo (mv t m) ms
def applyOut (t : List (List Int)) (ms : List S29) : List (List Int) × Int :=
  if validT t = true ∧ badMoves t.length ms = false then applyGo t ms else ([], 1)
def Sqn (n : Nat) (t : List (List Int)) : Prop := t.length = n ∧ ∀ i : Int, 0 ≤ i → i < n → (rd_L1 t i).length = n
theorem Sqn.upd {n : Nat} {t : List (List Int)} (h : Sqn n t) (i j x : Int) : Sqn n (upd t i j x) := by
  refine ⟨by simp [A.upd, h.1], fun q q0 q1 => ?_⟩
  have hq := h.2 q q0 q1
  unfold A.upd rd_L1
  rw [List.getD_eq_getElem?_getD, List.getElem?_set]
  split
  · rename_i he
    have hl : i.toNat < t.length := by have := h.1; omega
    rw [if_pos hl]
    simp only [Option.getD_some, List.length_set]
    have : rd_L1 t i = rd_L1 t q := by unfold rd_L1; rw [he]
    rw [← hq, ← this]
    rfl
  · rw [← List.getD_eq_getElem?_getD]
    exact hq
theorem Sqn.mv {n : Nat} {t : List (List Int)} (h : Sqn n t) (m : S29) : Sqn n (mv t m) := (h.upd _ _ _).upd _ _ _

set_option maxHeartbeats 4000000 in
set_option maxRecDepth 100000 in
theorem Apply_any (A : Option Addr) (c : Nat) (t : List (List Int)) (A1 : Option Addr) (c1 : Nat) (ms : List S29) (w : World) (hr : Kd.C KT w A t.length t) (hr1 : Kd.C k29 w A1 ms.length ms) :
    Calls Try.prog 15 #[.slice A t.length c, .slice A1 ms.length c1] w fun e w' => ∃ v : Value, e = .returned (.tuple #[v, .int .i64 (applyOut t ms).2]) ∧ Kd.S KT 31 w' w.heap.size (fun _ => True) v (applyOut t ms).1 ∧ Below w.heap.size w w' := by
  have hb0 : Below w.heap.size w (w.alloc (.cells #[.slice A t.length c] 22)) := (Below.refl _ _).alloc (Nat.le_refl _) _
  have HR := Aside0.mk (Kd.C_below hr hb0)
  have HR1 := Aside0.mk (Kd.C_below hr1 hb0)
  have HRw := Aside0.mk hr1
  have HB0 := Aside0.mk hb0
  have hm : ms.length ≤ 9223372036854775807 := hr1.2.1
  have hu29 := Try.underlying29
  clear hr hr1 hb0
  cases hv : validT t with
  | false =>
    have hv' := Aside0.mk hv
    have hf : Aside0 (applyOut t ms = ([], 1)) := ⟨by simp [applyOut, hv]⟩
    clear hv
    go_enter Try.func15, Try.ntmps15
    go_wp2_with (go_at_call 18; refine (valid_any _ _ _ _ HR.out).mono ?_; rw [hv'.out]; rintro e w' ⟨rfl, ⟨m, rfl⟩⟩)
    go_ret2
    exact ⟨_, by rw [hf.out]; rfl, by rw [hf.out]; exact Kd.S_nil _ _ _ _ _, pw_below_drewN HB0.out _⟩
  | true =>
    have hv' := Aside0.mk hv
    cases hbm : badMoves t.length ms with
    | true =>
      have hbm' := Aside0.mk hbm
      have hf : Aside0 (applyOut t ms = ([], 1)) := ⟨by simp [applyOut, hbm]⟩
      clear hv hbm
      go_enter Try.func15, Try.ntmps15
      go_wp2_with (first | (go_at_call 18; refine (valid_any _ _ _ _ HR.out).mono ?_; rw [hv'.out]; rintro e w' ⟨rfl, ⟨m, rfl⟩⟩) | (go_at_call 37; refine (contains37 _ _ _ w.heap.size A t.length c _ (Kd.C_drewN HR1.out _) (by simp)).mono ?_; rw [hbm'.out]; rintro e w1 ⟨rfl, hb⟩; have HB1 := Aside0.mk ((pw_below_drewN HB0.out _).trans (hb.mono (by simp))); clear hb))
      go_ret2
      exact ⟨_, by rw [hf.out]; rfl, by rw [hf.out]; exact Kd.S_nil _ _ _ _ _, HB1.out⟩
    | false =>
      have hbm' := Aside0.mk hbm
      have hf : Aside0 (applyOut t ms = applyGo t ms) := ⟨by simp [applyOut, hv, hbm]⟩
      have hok : Aside0 (∀ m ∈ ms, mvOk t.length m = true) := ⟨by simpa [badMoves] using hbm⟩
      have hn12 := (valid_sq hv).1
      have hrows := (valid_sq hv).2
      have hsq : Aside0 (Sqn t.length t) := ⟨rfl, fun i i0 i1 => rowlen hv i i0 i1⟩
      have HRW := Aside0.mk hrows
      clear hv hbm hrows
      go_enter Try.func15, Try.ntmps15
      go_wp2_with (first | (go_at_call 18; refine (valid_any _ _ _ _ HR.out).mono ?_; rw [hv'.out]; rintro e w' ⟨rfl, ⟨m, rfl⟩⟩) | (go_at_call 37; refine (contains37 _ _ _ w.heap.size A t.length c _ (Kd.C_drewN HR1.out _) (by simp)).mono ?_; rw [hbm'.out]; rintro e w1 ⟨rfl, hb⟩; have hbx : w1.cell? ⟨w.heap.size, 0, none⟩ = some (.slice A t.length c) := (hb.cell (p := ⟨w.heap.size, 0, none⟩) (by simp)).trans (by simp); have HC1 := Aside0.mk (Kd.C_below (Kd.C_drewN HR.out _) hb); have HC2 := Aside0.mk (Kd.C_below (Kd.C_drewN HR1.out _) hb); have HB1 := Aside0.mk ((pw_below_drewN HB0.out _).trans (hb.mono (by simp))); clear hb) | (go_at_call 40; refine (copied_any _ _ _ _ HC1.out (by omega) (fun r hr => by rw [(HRW.out r hr).1]; omega)).mono ?_; rintro e w2 ⟨v2, rfl, hS, hb⟩; obtain ⟨A6, c6, e6⟩ := Kd.S_slice hS; subst e6; have HC3 := Aside0.mk (Kd.C_below HC2.out hb); have HS := Aside0.mk (Kd.S_lower hS HB1.out.size); have HB2 := Aside0.mk (below_step HB1.out hb); clear hS hb HC1 HC2 hbx))
      go_loopw [21] (fun i wr => ∃ (k : Nat) (T : List (List Int)), k ≤ ms.length ∧ i = .int .i64 k ∧ Aside0 (applyGo t ms = applyGo T (ms.drop k)) ∧ Aside0 (Kd.S KT 31 wr w.heap.size (fun _ => True) (.slice A6 t.length c6) T) ∧ Aside0 (Sqn t.length T) ∧ Aside0 (Below w.heap.size w wr)) (fun i _ => ms.length - (intOf i).toNat)
      case atStart => exact ⟨0, t, by omega, rfl, ⟨rfl⟩, HS, hsq, HB2⟩
      case round =>
        clear HC3 HS HB2 HB1
        obtain ⟨k, T, hk, rfl, HE, HO, HQ, HB⟩ := hrel
        by_cases hlt : k < ms.length
        · obtain ⟨ad, e, hx0, hx1, hx2, hx3⟩ := at_T29 (Kd.C_below HRw.out HB.out) k (by omega) (by omega)
          cases e
          rw [Int.toNat_natCast] at hx0 hx1 hx2 hx3
          have hmem : rd_T29 ms k ∈ ms := by
            unfold rd_T29
            rw [Int.toNat_natCast, List.getD_eq_getElem?_getD, List.getElem?_eq_getElem hlt]
            exact List.getElem_mem hlt
          have hmv := hok.out _ hmem
          have hdrop : ms.drop k = rd_T29 ms k :: ms.drop (k + 1) := by
            rw [List.drop_eq_getElem_cons hlt]
            simp [rd_T29, List.getD_eq_getElem?_getD, List.getElem?_eq_getElem hlt]
          obtain ⟨m, hm9⟩ : ∃ m, m = rd_T29 ms k := ⟨_, rfl⟩
          rw [← hm9] at hx0 hx1 hx2 hx3 hmv hdrop
          have HD := Aside0.mk hdrop
          clear hmem hdrop hm9
          obtain ⟨a0, a1, a2, a3⟩ := m
          simp only at hx0 hx1 hx2 hx3
          simp only [mvOk, moveOk, inI, Bool.and_eq_true, decide_eq_true_eq, Bool.not_eq_true', beq_eq_false_iff_ne] at hmv
          obtain ⟨n01, ⟨p0, q0⟩, ⟨p1, q1⟩, ⟨p2, q2⟩, n20, n21, b1, b2⟩ := hmv
          have HT := Aside0.mk (Kd.S_alloc HO.out (.cells #[.int .i64 a0, .int .i64 a1, .int .i64 a2, .int .i64 a3] 29))
          have l0 : a2 < ((rd_L1 T a0).length : Int) := by rw [HQ.out.2 a0 p0 q0]; exact q2
          have l1 : a2 < ((rd_L1 T a1).length : Int) := by rw [HQ.out.2 a1 p1 q1]; exact q2
          have hA6 : ∃ x, A6 = some x := by
            obtain ⟨A', c', e, hle, hC⟩ := Kd.S_reads HO.out
            injection e with e1 e2 e3
            obtain ⟨ad', _, _, e9, _⟩ := at_L1 hC a0 p0 (by rw [HQ.out.1]; exact q0)
            exact ⟨ad', by rw [e1, e9]⟩
          obtain ⟨A6, rfl⟩ := hA6
          obtain ⟨g0, d0, s0, s1, _, _, _, _⟩ := tab_at HT.out a0 a2 p0 (by rw [HQ.out.1]; exact q0) p2 l0
          obtain ⟨g1, d1, r0, r1, _, _, _, _⟩ := tab_at HT.out a1 a2 p1 (by rw [HQ.out.1]; exact q1) p2 l1
          by_cases ht1 : get T a0 a2 < a3
          · have hb1 : decide (rd (rd_L1 T a0) a2 < a3) = true := decide_eq_true ht1
            have hfin : Aside0 (applyGo t ms = ([], 6)) := ⟨by rw [HE.out, HD.out, applyGo, if_pos ht1]⟩
            clear ht1
            go_wp2
            repeat (go_quiet (fail); try go_wp2)
            go_ret2
            exact ⟨_, by rw [hf.out, hfin.out]; rfl, by rw [hf.out, hfin.out]; exact Kd.S_nil _ _ _ _ _, by repeat (first | exact HB.out | apply pw_below_drewN | (refine Below.alloc ?_ (by have := HB.out.size; simpa using this) _))⟩
          · have hb1 : decide (rd (rd_L1 T a0) a2 < a3) = false := decide_eq_false ht1
            by_cases ht2 : 1099511627776 - a3 < get T a1 a2
            · have hb2 : decide (1099511627776 - a3 < rd (rd_L1 T a1) a2) = true := decide_eq_true ht2
              have hfin : Aside0 (applyGo t ms = ([], 2)) := ⟨by rw [HE.out, HD.out, applyGo, if_neg ht1, if_pos ht2]⟩
              clear ht1 ht2
              go_wp2
              go_quiet (fail)
              go_wp2
              have hwr : IntKind.i64.wrap (1099511627776 - a3) = 1099511627776 - a3 := IntWalk.i64_in _ (by omega)
              go_quiet (fail)
              clear hwr
              go_wp2
              go_ret2
              exact ⟨_, by rw [hf.out, hfin.out]; rfl, by rw [hf.out, hfin.out]; exact Kd.S_nil _ _ _ _ _, by repeat (first | exact HB.out | apply pw_below_drewN | (refine Below.alloc ?_ (by have := HB.out.size; simpa using this) _))⟩
            · have hb2 : decide (1099511627776 - a3 < rd (rd_L1 T a1) a2) = false := decide_eq_false ht2
              have hgo : Aside0 (applyGo t ms = applyGo (mv T ⟨a0, a1, a2, a3⟩) (ms.drop (k + 1))) := ⟨by rw [HE.out, HD.out, applyGo, if_neg ht1, if_neg ht2]⟩
              clear ht1 ht2
              go_wp2
              generalize hW2 : wr.alloc (.cells #[.int .i64 a0, .int .i64 a1, .int .i64 a2, .int .i64 a3] 29) = W2 at HT s0 s1 r0 r1 ⊢
              have BM := Aside0.mk (show W2.heap[wr.heap.size]? = some (.cells #[.int .i64 a0, .int .i64 a1, .int .i64 a2, .int .i64 a3] 29 (0, 0)) from by rw [← hW2]; exact heap_at _ rfl)
              have HB2 := Aside0.mk (show Below w.heap.size w W2 from by rw [← hW2]; exact HB.out.alloc HB.out.size _)
              have hbm2 : Aside0 (w.heap.size ≤ wr.heap.size) := ⟨HB.out.size⟩
              generalize wr.heap.size = bm at BM hbm2 ⊢
              clear hW2 hx0 hx1 hx2 hx3 HO HB
              have m0 : W2.cell? ⟨bm, 0, none⟩ = some (.int .i64 a0) := by simp [World.cell?, BM.out]
              have m1 : W2.cell? ⟨bm, 1, none⟩ = some (.int .i64 a1) := by simp [World.cell?, BM.out]
              have m2 : W2.cell? ⟨bm, 2, none⟩ = some (.int .i64 a2) := by simp [World.cell?, BM.out]
              have m3 : W2.cell? ⟨bm, 3, none⟩ = some (.int .i64 a3) := by simp [World.cell?, BM.out]
              go_quiet (fail)
              go_wp2
              have hwr : IntKind.i64.wrap (1099511627776 - a3) = 1099511627776 - a3 := IntWalk.i64_in _ (by omega)
              refine wp_region_quiet_lit (by kernel_rfl) (by kernel_rfl) ?_
              repeat (quiet_step (fail))
              refine wpQuiet_nil ?_
              intro W4 hw4
              have HT5 := Aside0.mk (show Kd.S KT 31 W4.drew w.heap.size (fun _ => True) (.slice (some A6) t.length c6) T from by obtain ⟨n, rfl⟩ := hw4; exact Kd.S_drew (Kd.S_drewN (Kd.S_drewN HT.out _) _))
              have BM5 := Aside0.mk (show W4.drew.heap[bm]? = some (.cells #[.int .i64 a0, .int .i64 a1, .int .i64 a2, .int .i64 a3] 29 (0, 0)) from by obtain ⟨n, rfl⟩ := hw4; exact BM.out)
              have HB5 := Aside0.mk (show Below w.heap.size w W4.drew from by obtain ⟨n, rfl⟩ := hw4; exact below_drew (pw_below_drewN (pw_below_drewN HB2.out _) _))
              clear hwr hw4 m0 m1 m2 m3 HT s0 s1 r0 r1 BM HB2
              go_wp2
              refine wp_region_still_tail 13 (by kernel_rfl) (by kernel_rfl) ?_
              change wpStill _ _ W4.drew (fun a' => wpList _ _ _ _ a' W4.drew) _ _
              generalize W4.drew = W5 at HT5 BM5 HB5 ⊢
              have m0 : W5.cell? ⟨bm, 0, none⟩ = some (.int .i64 a0) := by simp [World.cell?, BM5.out]
              have m2 : W5.cell? ⟨bm, 2, none⟩ = some (.int .i64 a2) := by simp [World.cell?, BM5.out]
              have m3 : W5.cell? ⟨bm, 3, none⟩ = some (.int .i64 a3) := by simp [World.cell?, BM5.out]
              obtain ⟨g, d, s0, s1, s2, s3, ⟨_, gc, s4⟩, s5⟩ := tab_at HT5.out a0 a2 p0 (by rw [HQ.out.1]; exact q0) p2 l0
              have S4 := Aside0.mk s4
              have S5 := Aside0.mk s5
              clear s4 s5
              simp only [List.take_succ_cons, List.take_zero, List.drop_succ_cons, List.drop_zero]
              repeat still_step
              refine wpStill_nil ?_
              go_wp2
              have HT6 := Aside0.mk (show Kd.S KT 31 (W5.setCell ⟨g, a2.toNat, none⟩ (.int .i64 (wrap64 (rd (rd_L1 T a0) a2 - a3)))).drew w.heap.size (fun _ => True) (.slice (some A6) t.length c6) (upd T a0 a2 (wrap64 (get T a0 a2 - a3))) from Kd.S_drew (S5.out _).1)
              have BM6 := Aside0.mk (show (W5.setCell ⟨g, a2.toNat, none⟩ (.int .i64 (wrap64 (rd (rd_L1 T a0) a2 - a3)))).drew.heap[bm]? = some (.cells #[.int .i64 a0, .int .i64 a1, .int .i64 a2, .int .i64 a3] 29 (0, 0)) from by
                show (W5.setCell ⟨g, a2.toNat, none⟩ (.int .i64 (wrap64 (rd (rd_L1 T a0) a2 - a3)))).heap[bm]? = _
                rw [Below.heap_setCell _ _ _ _ (blk_ne BM5.out S4.out (by decide))]
                exact BM5.out)
              have HB6 := Aside0.mk (show Below w.heap.size w (W5.setCell ⟨g, a2.toNat, none⟩ (.int .i64 (wrap64 (rd (rd_L1 T a0) a2 - a3)))).drew from below_drew (HB5.out.setCell s3 _))
              obtain ⟨T1, hT1⟩ : ∃ T1, T1 = upd T a0 a2 (wrap64 (get T a0 a2 - a3)) := ⟨_, rfl⟩
              have HQ1 := Aside0.mk (show Sqn t.length T1 from by rw [hT1]; exact HQ.out.upd _ _ _)
              have hmvv : Aside0 (upd T1 a1 a2 (wrap64 (get T1 a1 a2 + a3)) = mv T ⟨a0, a1, a2, a3⟩) := ⟨by rw [hT1]; rfl⟩
              rw [← hT1] at HT6
              refine wp_region_still_tail 13 (by kernel_rfl) (by kernel_rfl) ?_
              change wpStill _ _ (W5.setCell ⟨g, a2.toNat, none⟩ (.int .i64 (wrap64 (rd (rd_L1 T a0) a2 - a3)))).drew (fun a' => wpList _ _ _ _ a' (W5.setCell ⟨g, a2.toNat, none⟩ (.int .i64 (wrap64 (rd (rd_L1 T a0) a2 - a3)))).drew) _ _
              generalize (W5.setCell ⟨g, a2.toNat, none⟩ (.int .i64 (wrap64 (rd (rd_L1 T a0) a2 - a3)))).drew = W6 at HT6 BM6 HB6 ⊢
              clear m0 m2 m3 s0 s1 s2 S4 S5 hT1 HT5 BM5 HB5
              have m0 : W6.cell? ⟨bm, 1, none⟩ = some (.int .i64 a1) := by simp [World.cell?, BM6.out]
              have m2 : W6.cell? ⟨bm, 2, none⟩ = some (.int .i64 a2) := by simp [World.cell?, BM6.out]
              have m3 : W6.cell? ⟨bm, 3, none⟩ = some (.int .i64 a3) := by simp [World.cell?, BM6.out]
              have l2 : a2 < ((rd_L1 T1 a1).length : Int) := by rw [HQ1.out.2 a1 p1 q1]; exact q2
              obtain ⟨h, d2, s0, s1, s2, s4, _, s5⟩ := tab_at HT6.out a1 a2 p1 (by rw [HQ1.out.1]; exact q1) p2 l2
              have S5 := Aside0.mk s5
              clear s5
              simp only [List.take_succ_cons, List.take_zero, List.drop_succ_cons, List.drop_zero]
              repeat still_step
              refine wpStill_nil ?_
              go_wp2
              go_roundw
              case rel => exact ⟨k + 1, mv T ⟨a0, a1, a2, a3⟩, by omega, by go_num, hgo, ⟨by rw [← hmvv.out]; exact (S5.out _).1⟩, ⟨HQ.out.mv _⟩, ⟨HB6.out.setCell s4 _⟩⟩
              case measure => simp [intOf]; omega
        · have hfin : Aside0 (applyGo t ms = (T, 0)) := ⟨by rw [HE.out, List.drop_of_length_le (by omega)]; rfl⟩
          go_wp2
          go_ret2
          exact ⟨_, by rw [hf.out, hfin.out]; rfl, by rw [hf.out, hfin.out]; exact HO.out, HB.out⟩

end Go.Proofs.Ytdljbmgknhbceaa.A
