import Derived.Test.YtdljbmgknhbceaaAc
import Derived.StillTailTactics
namespace Go.Proofs.Ytdljbmgknhbceaa.A
open Go.RowKit Go.Proofs.YtdljbmgknhbceaaW.PrintWords Go.Proofs.YtdljbmgknhbceaaW.PrintLast Go.Proofs.YtdljbmgknhbceaaW.PrintMore Go.Proofs.Ytdljbmgknhbceaa.Q
set_option linter.unusedVariables false
set_option linter.unusedSimpArgs false

def mvOk (n : Nat) (m : S29) : Bool := moveOk n m.f0 m.f1 m.f2 m.f3
theorem bad38 (m : S29) (bt : Nat) (A : Option Addr) (n c : Nat) (w : World) (hb : w.cell? ⟨bt, 0, none⟩ = some (.slice A n c)) :
    Calls Try.prog 38 #[.agg #[.int .i64 m.f0, .int .i64 m.f1, .int .i64 m.f2, .int .i64 m.f3], .pointer (some ⟨bt, 0, none⟩)] w fun e w' => e = .returned (.bool (!mvOk n m)) ∧ Below w.heap.size w w' := by
  have hbl : bt < w.heap.size := World.block_lt_of_cell? w _ hb
  have hbn : bt ≠ w.heap.size := by omega
  obtain ⟨a0, a1, a2, a3⟩ := m
  have hu29 := Try.underlying29
  have hf : Aside0 (mvOk n ⟨a0, a1, a2, a3⟩ = moveOk n a0 a1 a2 a3) := ⟨rfl⟩
  go_enter Try.func38, Try.ntmps38
  go_wp2_with (go_at_call 39; refine (move_any _ _ _ _ _ _).mono ?_; rintro e w' ⟨rfl, hbl⟩; have HB := Aside0.mk hbl; clear hbl)
  go_ret
  exact ⟨by rw [hf.out]; rfl, ((Below.refl _ _).alloc (Nat.le_refl _) _).trans (HB.out.mono (by simp))⟩

def badMoveAt (n : Nat) : List S29 → Nat → Int
  | [], _ => -1
  | m :: ms, i => if mvOk n m then badMoveAt n ms (i + 1) else (i : Int)
def badMoves (n : Nat) (l : List S29) : Bool := l.any fun m => !mvOk n m
theorem badMoveAt_ge (n : Nat) (l : List S29) (i : Nat) : decide (0 ≤ badMoveAt n l i) = badMoves n l := by
  induction l generalizing i with
  | nil => rfl
  | cons x xs ih =>
    unfold badMoveAt badMoves
    cases h : mvOk n x with
    | true => simpa [badMoves, h] using ih (i + 1)
    | false => simp [h]
theorem badMoveAt_drop (n : Nat) (l : List S29) (k : Nat) (hk : k < l.length) : badMoveAt n (l.drop k) k = if mvOk n (rd_T29 l k) then badMoveAt n (l.drop (k + 1)) (k + 1) else (k : Int) := by
  rw [List.drop_eq_getElem_cons hk, badMoveAt]
  simp [rd_T29, List.getD_eq_getElem?_getD, List.getElem?_eq_getElem hk]

set_option maxHeartbeats 1000000 in
theorem index60 (A : Option Addr) (c : Nat) (l : List S29) (bt : Nat) (At : Option Addr) (n ct : Nat) (w : World) (hr : Kd.C k29 w A l.length l) (hb : w.cell? ⟨bt, 0, none⟩ = some (.slice At n ct)) :
    Calls Try.prog 60 #[.slice A l.length c, .func (.func 38) #[] #[.pointer (some ⟨bt, 0, none⟩)]] w fun e w' => e = .returned (.int .i64 (badMoveAt n l 0)) ∧ Below w.heap.size w w' := by
  have HR := Aside0.mk hr
  have hm : l.length ≤ 9223372036854775807 := hr.2.1
  have hbl : bt < w.heap.size := World.block_lt_of_cell? w _ hb
  have HBT := Aside0.mk hb
  have hu29 := Try.underlying29
  clear hr hb
  go_enter Try.func60, Try.ntmps60
  go_wp2
  go_loopw [8] (fun i w' => ∃ k : Nat, k ≤ l.length ∧ i = .int .i64 k ∧ Aside0 (badMoveAt n l 0 = badMoveAt n (l.drop k) k) ∧ Aside0 (Below w.heap.size w w')) (fun i _ => l.length - (intOf i).toNat)
  case atStart => exact ⟨0, by omega, rfl, ⟨rfl⟩, ⟨Below.refl _ _⟩⟩
  case round =>
    obtain ⟨k, hk, rfl, HE, HB⟩ := hrel
    by_cases hlt : k < l.length
    · obtain ⟨ad, e, hx0, hx1, hx2, hx3⟩ := at_T29 (Kd.C_below HR.out HB.out) k (by omega) (by omega)
      cases e
      rw [Int.toNat_natCast] at hx0 hx1 hx2 hx3
      have hs := Aside0.mk (badMoveAt_drop n l k hlt)
      have hbt : wr.cell? ⟨bt, 0, none⟩ = some (.slice At n ct) := (HB.out.cell (p := ⟨bt, 0, none⟩) hbl).trans HBT.out
      cases hb : mvOk n (rd_T29 l k) with
      | true =>
        have hb' := Aside0.mk hb
        clear hb
        go_wp2_with (go_at_call 38; refine (bad38 (rd_T29 l k) _ _ n _ _ hbt).mono ?_; rw [hb'.out]; rintro e w' ⟨rfl, hbb⟩; have HB2 := Aside0.mk (below_step HB.out hbb); clear hbb)
        go_roundw
        case rel => exact ⟨k + 1, by omega, by go_num, ⟨by rw [HE.out, hs.out, if_pos hb'.out]⟩, HB2⟩
        case measure => simp [intOf]; omega
      | false =>
        have hb' := Aside0.mk hb
        clear hb
        go_wp2_with (go_at_call 38; refine (bad38 (rd_T29 l k) _ _ n _ _ hbt).mono ?_; rw [hb'.out]; rintro e w' ⟨rfl, hbb⟩; have HB2 := Aside0.mk (below_step HB.out hbb); clear hbb)
        go_ret
        exact ⟨by rw [HE.out, hs.out, if_neg (by rw [hb'.out]; simp)]; rfl, HB2.out⟩
    · have hd : Aside0 (badMoveAt n l 0 = -1) := ⟨by rw [HE.out, List.drop_of_length_le (by omega)]; rfl⟩
      go_wp2
      go_ret
      exact ⟨by rw [hd.out]; rfl, HB.out⟩

theorem contains37 (A : Option Addr) (c : Nat) (l : List S29) (bt : Nat) (At : Option Addr) (n ct : Nat) (w : World) (hr : Kd.C k29 w A l.length l) (hb : w.cell? ⟨bt, 0, none⟩ = some (.slice At n ct)) :
    Calls Try.prog 37 #[.slice A l.length c, .func (.func 38) #[] #[.pointer (some ⟨bt, 0, none⟩)]] w fun e w' => e = .returned (.bool (badMoves n l)) ∧ Below w.heap.size w w' := by
  have HR := Aside0.mk hr
  have HBT := Aside0.mk hb
  clear hr hb
  have hb := Aside0.mk (badMoveAt_ge n l 0)
  go_enter Try.func37, Try.ntmps37
  go_wp2_with (go_at_call 60; refine (index60 _ _ _ _ _ n _ _ HR.out HBT.out).mono ?_; rintro e w' ⟨rfl, hbb⟩; have HB := Aside0.mk hbb; clear hbb)
  go_ret
  exact ⟨by rw [← hb.out]; rfl, HB.out⟩

end Go.Proofs.Ytdljbmgknhbceaa.A
