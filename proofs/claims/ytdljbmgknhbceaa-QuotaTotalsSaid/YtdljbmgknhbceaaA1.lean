import Derived.Test.YtdljbmgknhbceaaQx0
namespace Go.Proofs.Ytdljbmgknhbceaa.A
open Go.RowKit Go.Proofs.YtdljbmgknhbceaaW.PrintWords Go.Proofs.YtdljbmgknhbceaaW.PrintLast Go.Proofs.YtdljbmgknhbceaaW.PrintMore
set_option linter.unusedVariables false
set_option linter.unusedSimpArgs false

def okN (n : Int) : Bool := decide (0 ≤ n) && decide (n ≤ 1099511627776)

theorem within_any (n : Int) (w : World) : Calls Try.prog 45 #[.int .i64 n] w fun e w' => e = .returned (.bool (okN n)) ∧ Drawn0 w w' := by
  by_cases h0 : 0 ≤ n
  · have h0b : decide (0 ≤ n) = true := by simpa using h0
    by_cases h1 : n ≤ 1099511627776
    · have h1b : decide (n ≤ 1099511627776) = true := by simpa using h1
      have hf : Aside0 (okN n = true) := ⟨by simp [okN, h0, h1]⟩
      go_enter Try.func45, Try.ntmps45
      go_wp2
      repeat (go_quiet (fail); try go_wp2)
      go_ret
      exact ⟨by rw [hf.out]; first | rfl | simp, by repeat (first | exact Drawn0.refl _ | apply Drawn0.step)⟩
    · have h1b : decide (n ≤ 1099511627776) = false := by simpa using h1
      have hf : Aside0 (okN n = false) := ⟨by simp [okN, h1]⟩
      go_enter Try.func45, Try.ntmps45
      go_wp2
      repeat (go_quiet (fail); try go_wp2)
      go_ret
      exact ⟨by rw [hf.out]; first | rfl | simp, by repeat (first | exact Drawn0.refl _ | apply Drawn0.step)⟩
  · have h0b : decide (0 ≤ n) = false := by simpa using h0
    have hf : Aside0 (okN n = false) := ⟨by simp [okN, h0]⟩
    go_enter Try.func45, Try.ntmps45
    go_wp2
    repeat (go_quiet (fail); try go_wp2)
    go_ret
    exact ⟨by rw [hf.out]; first | rfl | simp, by repeat (first | exact Drawn0.refl _ | apply Drawn0.step)⟩

theorem bad44 (n : Int) (w : World) : Calls Try.prog 44 #[.int .i64 n] w fun e w' => e = .returned (.bool (!okN n)) ∧ Drawn0 w w' := by
  go_enter Try.func44, Try.ntmps44
  go_wp2_with (go_at_call 45; refine (within_any _ _).mono ?_; rintro e w' ⟨rfl, ⟨m, rfl⟩⟩)
  go_ret
  exact ⟨rfl, by repeat (first | exact Drawn0.refl _ | apply Drawn0.step)⟩
theorem bad66 (n : Int) (w : World) : Calls Try.prog 66 #[.int .i64 n] w fun e w' => e = .returned (.bool (!okN n)) ∧ Drawn0 w w' := by
  go_enter Try.func66, Try.ntmps66
  go_wp2_with (go_at_call 45; refine (within_any _ _).mono ?_; rintro e w' ⟨rfl, ⟨m, rfl⟩⟩)
  go_ret
  exact ⟨rfl, by repeat (first | exact Drawn0.refl _ | apply Drawn0.step)⟩

/-- The index of the first number out of range, or -1. -/
def badAt : List Int → Nat → Int
  | [], _ => -1
  | x :: xs, i => if okN x then badAt xs (i + 1) else (i : Int)
def badAny (l : List Int) : Bool := l.any fun n => !okN n
theorem badAt_ge (l : List Int) (i : Nat) : decide (0 ≤ badAt l i) = badAny l := by
  induction l generalizing i with
  | nil => rfl
  | cons x xs ih =>
    unfold badAt badAny
    cases h : okN x with
    | true => simpa [badAny, h] using ih (i + 1)
    | false => simp [h]
theorem badAt_drop (l : List Int) (k : Nat) (hk : k < l.length) : badAt (l.drop k) k = if okN (rd l k) then badAt (l.drop (k + 1)) (k + 1) else (k : Int) := by
  rw [List.drop_eq_getElem_cons hk, badAt]
  simp [rd, List.getD_eq_getElem?_getD, List.getElem?_eq_getElem hk]

set_option maxHeartbeats 400000 in
theorem index44 (A : Option Addr) (c : Nat) (l : List Int) (w : World) (hr : Kd.C (Kd.int .i64) w A l.length l) :
    Calls Try.prog 65 #[.slice A l.length c, .func (.func 44) #[] #[]] w fun e w' => e = .returned (.int .i64 (badAt l 0)) ∧ Drawn0 w w' := by
  have HR := Aside0.mk hr
  have hm : l.length ≤ 9223372036854775807 := hr.2.1
  clear hr
  go_enter Try.func65, Try.ntmps65
  go_wp2
  go_loopw [8] (fun i w' => ∃ k : Nat, k ≤ l.length ∧ i = .int .i64 k ∧ Aside0 (badAt l 0 = badAt (l.drop k) k) ∧ Drawn0 w w') (fun i _ => l.length - (intOf i).toNat)
  case atStart => exact ⟨0, by omega, rfl, ⟨rfl⟩, Drawn0.refl _⟩
  case round =>
    obtain ⟨k, hk, rfl, HB, ⟨m, rfl⟩⟩ := hrel
    by_cases hlt : k < l.length
    · obtain ⟨ad, e, hx⟩ := Kd.at_int HR.out k (by omega) (by omega)
      cases e
      rw [Int.toNat_natCast] at hx
      have hs := Aside0.mk (badAt_drop l k hlt)
      cases hb : okN (rd l k) with
      | true =>
        have hb' := Aside0.mk hb
        have hn : (!okN (rd l k)) = false := by rw [hb]; rfl
        clear hb
        go_wp2_with (go_at_call 44; refine (bad44 _ _).mono ?_; rintro e w' ⟨rfl, ⟨m2, rfl⟩⟩)
        go_roundw
        case rel => exact ⟨k + 1, by omega, by go_num, ⟨by rw [HB.out, hs.out, if_pos hb'.out]⟩, by repeat (first | exact Drawn0.refl _ | apply Drawn0.step)⟩
        case measure => simp [intOf]; omega
      | false =>
        have hb' := Aside0.mk hb
        have hn : (!okN (rd l k)) = true := by rw [hb]; rfl
        clear hb
        go_wp2_with (go_at_call 44; refine (bad44 _ _).mono ?_; rintro e w' ⟨rfl, ⟨m2, rfl⟩⟩)
        go_ret
        exact ⟨by rw [HB.out, hs.out, if_neg (by rw [hb'.out]; simp)]; rfl, by repeat (first | exact Drawn0.refl _ | apply Drawn0.step)⟩
    · have hd : Aside0 (badAt l 0 = -1) := ⟨by rw [HB.out, List.drop_of_length_le (by omega)]; rfl⟩
      go_wp2
      go_ret
      exact ⟨by rw [hd.out]; rfl, by repeat (first | exact Drawn0.refl _ | apply Drawn0.step)⟩

theorem contains44 (A : Option Addr) (c : Nat) (l : List Int) (w : World) (hr : Kd.C (Kd.int .i64) w A l.length l) :
    Calls Try.prog 43 #[.slice A l.length c, .func (.func 44) #[] #[]] w fun e w' => e = .returned (.bool (badAny l)) ∧ Drawn0 w w' := by
  have HR := Aside0.mk hr
  clear hr
  have hb := Aside0.mk (badAt_ge l 0)
  go_enter Try.func43, Try.ntmps43
  go_wp2_with (go_at_call 65; refine (index44 _ _ _ _ HR.out).mono ?_; rintro e w' ⟨rfl, ⟨m, rfl⟩⟩)
  go_ret
  exact ⟨by rw [← hb.out]; rfl, by repeat (first | exact Drawn0.refl _ | apply Drawn0.step)⟩

set_option maxHeartbeats 400000 in
theorem index66 (A : Option Addr) (c : Nat) (l : List Int) (w : World) (hr : Kd.C (Kd.int .i64) w A l.length l) :
    Calls Try.prog 65 #[.slice A l.length c, .func (.func 66) #[] #[]] w fun e w' => e = .returned (.int .i64 (badAt l 0)) ∧ Drawn0 w w' := by
  have HR := Aside0.mk hr
  have hm : l.length ≤ 9223372036854775807 := hr.2.1
  clear hr
  go_enter Try.func65, Try.ntmps65
  go_wp2
  go_loopw [8] (fun i w' => ∃ k : Nat, k ≤ l.length ∧ i = .int .i64 k ∧ Aside0 (badAt l 0 = badAt (l.drop k) k) ∧ Drawn0 w w') (fun i _ => l.length - (intOf i).toNat)
  case atStart => exact ⟨0, by omega, rfl, ⟨rfl⟩, Drawn0.refl _⟩
  case round =>
    obtain ⟨k, hk, rfl, HB, ⟨m, rfl⟩⟩ := hrel
    by_cases hlt : k < l.length
    · obtain ⟨ad, e, hx⟩ := Kd.at_int HR.out k (by omega) (by omega)
      cases e
      rw [Int.toNat_natCast] at hx
      have hs := Aside0.mk (badAt_drop l k hlt)
      cases hb : okN (rd l k) with
      | true =>
        have hb' := Aside0.mk hb
        have hn : (!okN (rd l k)) = false := by rw [hb]; rfl
        clear hb
        go_wp2_with (go_at_call 66; refine (bad66 _ _).mono ?_; rintro e w' ⟨rfl, ⟨m2, rfl⟩⟩)
        go_roundw
        case rel => exact ⟨k + 1, by omega, by go_num, ⟨by rw [HB.out, hs.out, if_pos hb'.out]⟩, by repeat (first | exact Drawn0.refl _ | apply Drawn0.step)⟩
        case measure => simp [intOf]; omega
      | false =>
        have hb' := Aside0.mk hb
        have hn : (!okN (rd l k)) = true := by rw [hb]; rfl
        clear hb
        go_wp2_with (go_at_call 66; refine (bad66 _ _).mono ?_; rintro e w' ⟨rfl, ⟨m2, rfl⟩⟩)
        go_ret
        exact ⟨by rw [HB.out, hs.out, if_neg (by rw [hb'.out]; simp)]; rfl, by repeat (first | exact Drawn0.refl _ | apply Drawn0.step)⟩
    · have hd : Aside0 (badAt l 0 = -1) := ⟨by rw [HB.out, List.drop_of_length_le (by omega)]; rfl⟩
      go_wp2
      go_ret
      exact ⟨by rw [hd.out]; rfl, by repeat (first | exact Drawn0.refl _ | apply Drawn0.step)⟩

theorem contains66 (A : Option Addr) (c : Nat) (l : List Int) (w : World) (hr : Kd.C (Kd.int .i64) w A l.length l) :
    Calls Try.prog 43 #[.slice A l.length c, .func (.func 66) #[] #[]] w fun e w' => e = .returned (.bool (badAny l)) ∧ Drawn0 w w' := by
  have HR := Aside0.mk hr
  clear hr
  have hb := Aside0.mk (badAt_ge l 0)
  go_enter Try.func43, Try.ntmps43
  go_wp2_with (go_at_call 65; refine (index66 _ _ _ _ HR.out).mono ?_; rintro e w' ⟨rfl, ⟨m, rfl⟩⟩)
  go_ret
  exact ⟨by rw [← hb.out]; rfl, by repeat (first | exact Drawn0.refl _ | apply Drawn0.step)⟩

end Go.Proofs.Ytdljbmgknhbceaa.A
