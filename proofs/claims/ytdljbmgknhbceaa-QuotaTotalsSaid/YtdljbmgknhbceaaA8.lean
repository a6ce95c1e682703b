import Derived.Test.YtdljbmgknhbceaaA1
namespace Go.Proofs.Ytdljbmgknhbceaa.A
open Go.RowKit Go.Proofs.YtdljbmgknhbceaaW.PrintWords Go.Proofs.YtdljbmgknhbceaaW.PrintLast Go.Proofs.YtdljbmgknhbceaaW.PrintMore Go.Proofs.Ytdljbmgknhbceaa.Q
set_option linter.unusedVariables false
set_option linter.unusedSimpArgs false

def rowOk (n h : Nat) (r : List Int) : Bool := decide (r.length = n) && (decide (rd r h = 0) && !badAny r)
def rowsOk (n : Nat) : List (List Int) → Nat → Bool
  | [], _ => true
  | r :: rs, h => rowOk n h r && rowsOk n rs (h + 1)
def validT (t : List (List Int)) : Bool := rowsOk t.length t 0 && decide (t.length ≤ 12)
theorem rowsOk_drop (n : Nat) (t : List (List Int)) (k : Nat) (hk : k < t.length) : rowsOk n (t.drop k) k = (rowOk n k (rd_L1 t k) && rowsOk n (t.drop (k + 1)) (k + 1)) := by
  rw [List.drop_eq_getElem_cons hk, rowsOk]
  simp [rd_L1, List.getD_eq_getElem?_getD, List.getElem?_eq_getElem hk]

set_option maxHeartbeats 400000 in
theorem valid_any (A : Option Addr) (c : Nat) (t : List (List Int)) (w : World) (hr : Kd.C (Kd.slice 3 (Kd.int .i64)) w A t.length t) :
    Calls Try.prog 18 #[.slice A t.length c] w fun e w' => e = .returned (.bool (validT t)) ∧ Drawn0 w w' := by
  have HR := Aside0.mk hr
  have hm : t.length ≤ 9223372036854775807 := hr.2.1
  clear hr
  go_enter Try.func18, Try.ntmps18
  go_wp2
  go_loopw [7] (fun i w' => ∃ k : Nat, k ≤ t.length ∧ i = .int .i64 k ∧ Aside0 (rowsOk t.length t 0 = rowsOk t.length (t.drop k) k) ∧ Drawn0 w w') (fun i _ => t.length - (intOf i).toNat)
  case atStart => exact ⟨0, by omega, rfl, ⟨rfl⟩, Drawn0.refl _⟩
  case round =>
    obtain ⟨k, hk, rfl, HB, ⟨m, rfl⟩⟩ := hrel
    by_cases hlt : k < t.length
    · obtain ⟨ad, A1, c1, e, hx, hl, hi⟩ := at_L1 HR.out k (by omega) (by omega)
      cases e
      rw [Int.toNat_natCast] at hx
      have hs := Aside0.mk (rowsOk_drop t.length t k hlt)
      have HI := Aside0.mk hi
      clear hl
      by_cases h1 : (rd_L1 t k).length = t.length
      · have h1b : (((rd_L1 t k).length : Int) == (t.length : Int)) = true := beq_iff_eq.2 (by omega)
        have h1c : ((rd_L1 t k).length == t.length) = true := beq_iff_eq.2 h1
        have h1d : (((rd_L1 t k).length : Int) != (t.length : Int)) = false := bne_eq_false_iff_eq.2 (by omega)
        have hlt2 : (k : Int) < ((rd_L1 t k).length : Int) := by omega
        obtain ⟨ad2, e, hx2⟩ := Kd.at_int hi k (by omega) (by omega)
        cases e
        rw [Int.toNat_natCast] at hx2
        have H1 := Aside0.mk h1
        clear h1 hi
        by_cases h2 : rd (rd_L1 t k) k = 0
        · have h2b : (rd (rd_L1 t k) k == 0) = true := beq_iff_eq.2 h2
          have h2d : (rd (rd_L1 t k) k != 0) = false := bne_eq_false_iff_eq.2 h2
          have H2 := Aside0.mk h2
          clear h2
          cases hb : badAny (rd_L1 t k) with
          | true =>
            have hb' := Aside0.mk hb
            clear hb
            have hf : Aside0 (rowsOk t.length t 0 = false) := ⟨by rw [HB.out, hs.out]; simp [rowOk, hb'.out]⟩
            go_wp2_with (go_at_call 43; refine (contains44 _ _ _ _ (Kd.C_drewN HI.out _)).mono ?_; rw [hb'.out]; rintro e w' ⟨rfl, ⟨m2, rfl⟩⟩)
            go_ret
            exact ⟨by rw [validT, hf.out]; rfl, by repeat (first | exact Drawn0.refl _ | apply Drawn0.step)⟩
          | false =>
            have hb' := Aside0.mk hb
            clear hb
            have hf : Aside0 (rowOk t.length k (rd_L1 t k) = true) := ⟨by simp [rowOk, hb'.out, H1.out, H2.out]⟩
            go_wp2_with (go_at_call 43; refine (contains44 _ _ _ _ (Kd.C_drewN HI.out _)).mono ?_; rw [hb'.out]; rintro e w' ⟨rfl, ⟨m2, rfl⟩⟩)
            go_roundw
            case rel => exact ⟨k + 1, by omega, by go_num, ⟨by rw [HB.out, hs.out, hf.out]; rfl⟩, by repeat (first | exact Drawn0.refl _ | apply Drawn0.step)⟩
            case measure => simp [intOf]; omega
        · have h2b : (rd (rd_L1 t k) k == 0) = false := beq_eq_false_iff_ne.2 h2
          have h2d : (rd (rd_L1 t k) k != 0) = true := bne_iff_ne.2 h2
          have H2 := Aside0.mk h2
          clear h2
          have hf : Aside0 (rowsOk t.length t 0 = false) := ⟨by rw [HB.out, hs.out]; simp [rowOk, H2.out]⟩
          go_wp2
          go_ret
          exact ⟨by rw [validT, hf.out]; rfl, by repeat (first | exact Drawn0.refl _ | apply Drawn0.step)⟩
      · have h1b : (((rd_L1 t k).length : Int) == (t.length : Int)) = false := beq_eq_false_iff_ne.2 (by omega)
        have h1c : ((rd_L1 t k).length == t.length) = false := beq_eq_false_iff_ne.2 h1
        have h1d : (((rd_L1 t k).length : Int) != (t.length : Int)) = true := bne_iff_ne.2 (by omega)
        have hf : Aside0 (rowsOk t.length t 0 = false) := ⟨by rw [HB.out, hs.out]; simp [rowOk, h1]⟩
        clear h1
        go_wp2
        go_ret
        exact ⟨by rw [validT, hf.out]; rfl, by repeat (first | exact Drawn0.refl _ | apply Drawn0.step)⟩
    · have hf : Aside0 (rowsOk t.length t 0 = true) := ⟨by rw [HB.out, List.drop_of_length_le (by omega)]; rfl⟩
      have hv : Aside0 (validT t = decide ((t.length : Int) ≤ 12)) := ⟨by rw [validT, hf.out, Bool.true_and]; congr 1; simp; omega⟩
      go_wp2
      go_ret
      exact ⟨by rw [hv.out]; rfl, by repeat (first | exact Drawn0.refl _ | apply Drawn0.step)⟩

end Go.Proofs.Ytdljbmgknhbceaa.A
