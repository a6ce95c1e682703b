import Derived.Test.YtdljbmgknhbceaaAa
namespace Go.Proofs.Ytdljbmgknhbceaa.A
open Go.RowKit Go.Proofs.YtdljbmgknhbceaaW.PrintWords Go.Proofs.YtdljbmgknhbceaaW.PrintLast Go.Proofs.YtdljbmgknhbceaaW.PrintMore Go.Proofs.Ytdljbmgknhbceaa.Q
attribute [local go_sem] max2_int min2_int max_two min_two max_three min_three max_four min_four
set_option linter.unusedVariables false
set_option linter.unusedSimpArgs false

theorem ret2_int {x y : Int} (h : x = y) : Ending.returned (.tuple #[.int .i64 x, .int .i64 0]) = Ending.returned (.tuple #[.int .i64 y, .int .i64 0]) := by rw [h]
def ins (n : Nat) (d : Int) : Bool := decide (0 ≤ d) && decide (d < (n : Int))
theorem inside51 (d : Int) (b : Nat) (A : Option Addr) (n c : Nat) (w : World) (hb : w.cell? ⟨b, 0, none⟩ = some (.slice A n c)) :
    Calls Try.prog 51 #[.int .i64 d, .pointer (some ⟨b, 0, none⟩)] w fun e w' => e = .returned (.bool (ins n d)) ∧ w = w' := by
  by_cases h0 : 0 ≤ d
  · have h0b : decide (0 ≤ d) = true := by simpa using h0
    have hf : Aside0 (ins n d = decide (d < (n : Int))) := ⟨by simp [ins, h0]⟩
    go_enter Try.func51, Try.ntmps51
    go_wp2
    go_ret
    exact ⟨by rw [hf.out]; rfl, rfl⟩
  · have h0b : decide (0 ≤ d) = false := by simpa using h0
    have hf : Aside0 (ins n d = false) := ⟨by simp [ins, h0]⟩
    go_enter Try.func51, Try.ntmps51
    go_wp2
    go_ret
    exact ⟨by rw [hf.out]; rfl, rfl⟩

def allowedOk (t : List (List Int)) (q : List Int) (a h o : Int) : Bool := fitsT t q && (okN a && (ins t.length h && (ins t.length o && !(h == o))))
def allowedOut (t : List (List Int)) (q : List Int) (a h o : Int) : Int × Int :=
  if allowedOk t q a h o = true then (max 0 (min (wrap64 (rd q h - wsum (rd_L1 t h) 0)) (wrap64 (a - rd (balT t) o))), 0) else (0, 1)

theorem rowlen {t : List (List Int)} (h : validT t = true) (i : Int) (i0 : 0 ≤ i) (i1 : i < t.length) : (rd_L1 t i).length = t.length := by
  have hm : rd_L1 t i ∈ t := by
    unfold rd_L1
    rw [List.getD_eq_getElem?_getD, List.getElem?_eq_getElem (by omega)]
    exact List.getElem_mem _
  exact ((valid_sq h).2 _ hm).1

set_option maxHeartbeats 2000000 in
theorem Allowed_any (A : Option Addr) (c : Nat) (t : List (List Int)) (A1 : Option Addr) (c1 : Nat) (q : List Int) (a h o : Int) (w : World) (hr : Kd.C KT w A t.length t) (hr1 : Kd.C (Kd.int .i64) w A1 q.length q) :
    Calls Try.prog 22 #[.slice A t.length c, .slice A1 q.length c1, .int .i64 a, .int .i64 h, .int .i64 o] w fun e w' => e = .returned (.tuple #[.int .i64 (allowedOut t q a h o).1, .int .i64 (allowedOut t q a h o).2]) ∧ Below w.heap.size w w' := by
  have hb0 : Below w.heap.size w (w.alloc (.cells #[.slice A t.length c] 22)) := (Below.refl _ _).alloc (Nat.le_refl _) _
  have HR := Aside0.mk (Kd.C_below hr hb0)
  have HR1 := Aside0.mk (Kd.C_below hr1 hb0)
  have HB0 := Aside0.mk hb0
  clear hr hr1 hb0
  cases hv : fitsT t q with
  | false =>
    have hv' := Aside0.mk hv
    have hf : Aside0 (allowedOut t q a h o = (0, 1)) := ⟨by simp [allowedOut, allowedOk, hv]⟩
    clear hv
    go_enter Try.func22, Try.ntmps22
    go_wp2_with (go_at_call 46; refine (fits_any _ _ _ _ _ _ _ HR.out HR1.out).mono ?_; rw [hv'.out]; rintro e w' ⟨rfl, ⟨m, rfl⟩⟩)
    go_ret2
    exact ⟨by rw [hf.out]; rfl, pw_below_drewN HB0.out _⟩
  | true =>
    have hv' := Aside0.mk hv
    cases ha : okN a with
    | false =>
      have ha' := Aside0.mk ha
      have hf : Aside0 (allowedOut t q a h o = (0, 1)) := ⟨by simp [allowedOut, allowedOk, hv, ha]⟩
      clear hv ha
      go_enter Try.func22, Try.ntmps22
      go_wp2_with (first | (go_at_call 46; refine (fits_any _ _ _ _ _ _ _ HR.out HR1.out).mono ?_; rw [hv'.out]; rintro e w' ⟨rfl, ⟨m, rfl⟩⟩) | (go_at_call 45; refine (within_any _ _).mono ?_; rw [ha'.out]; rintro e w' ⟨rfl, ⟨m2, rfl⟩⟩))
      go_ret2
      exact ⟨by rw [hf.out]; rfl, pw_below_drewN HB0.out _⟩
    | true =>
      have ha' := Aside0.mk ha
      cases hh : ins t.length h with
      | false =>
        have hh' := Aside0.mk hh
        have hf : Aside0 (allowedOut t q a h o = (0, 1)) := ⟨by simp [allowedOut, allowedOk, hv, ha, hh]⟩
        clear hv ha hh
        go_enter Try.func22, Try.ntmps22
        go_wp2_with (first | (go_at_call 46; refine (fits_any _ _ _ _ _ _ _ HR.out HR1.out).mono ?_; rw [hv'.out]; rintro e w' ⟨rfl, ⟨m, rfl⟩⟩) | (go_at_call 45; refine (within_any _ _).mono ?_; rw [ha'.out]; rintro e w' ⟨rfl, ⟨m2, rfl⟩⟩) | (go_at_call 51; refine (inside51 _ _ A t.length c _ (by simp)).mono ?_; rw [hh'.out]; rintro e w' ⟨rfl, rfl⟩))
        go_ret2
        exact ⟨by rw [hf.out]; rfl, pw_below_drewN HB0.out _⟩
      | true =>
        have hh' := Aside0.mk hh
        cases ho : ins t.length o with
        | false =>
          have ho' := Aside0.mk ho
          have hf : Aside0 (allowedOut t q a h o = (0, 1)) := ⟨by simp [allowedOut, allowedOk, hv, ha, hh, ho]⟩
          have hd : Aside0 ((h == o) = false) := ⟨by
            rw [beq_eq_false_iff_ne]; rintro rfl; rw [hh] at ho; cases ho⟩
          clear hv ha hh ho
          go_enter Try.func22, Try.ntmps22
          go_wp2_with (first | (go_at_call 46; refine (fits_any _ _ _ _ _ _ _ HR.out HR1.out).mono ?_; rw [hv'.out]; rintro e w' ⟨rfl, ⟨m, rfl⟩⟩) | (go_at_call 45; refine (within_any _ _).mono ?_; rw [ha'.out]; rintro e w' ⟨rfl, ⟨m2, rfl⟩⟩) | (go_at_call_of 51 (Value.int IntKind.i64 h); refine (inside51 h _ A t.length c _ (by simp)).mono ?_; rw [hh'.out]; rintro e w' ⟨rfl, rfl⟩) | (go_at_call_of 51 (Value.int IntKind.i64 o); refine (inside51 o _ A t.length c _ (by simp)).mono ?_; rw [ho'.out]; rintro e w' ⟨rfl, rfl⟩))
          go_ret2
          exact ⟨by rw [hf.out]; rfl, pw_below_drewN HB0.out _⟩
        | true =>
          have ho' := Aside0.mk ho
          by_cases hd : h = o
          · have hf : Aside0 (allowedOut t q a h o = (0, 1)) := ⟨by simp [allowedOut, allowedOk, hd]⟩
            subst hd
            clear hv ha hh ho
            go_enter Try.func22, Try.ntmps22
            go_wp2_with (first | (go_at_call 46; refine (fits_any _ _ _ _ _ _ _ HR.out HR1.out).mono ?_; rw [hv'.out]; rintro e w' ⟨rfl, ⟨m, rfl⟩⟩) | (go_at_call 45; refine (within_any _ _).mono ?_; rw [ha'.out]; rintro e w' ⟨rfl, ⟨m2, rfl⟩⟩) | (go_at_call 51; refine (inside51 _ _ A t.length c _ (by simp)).mono ?_; rw [hh'.out]; rintro e w' ⟨rfl, rfl⟩))
            go_ret2
            exact ⟨by rw [hf.out]; rfl, pw_below_drewN HB0.out _⟩
          · have hdb : (h == o) = false := beq_eq_false_iff_ne.2 hd
            have hf : Aside0 (allowedOut t q a h o = (max 0 (min (wrap64 (rd q h - wsum (rd_L1 t h) 0)) (wrap64 (a - rd (balT t) o))), 0)) := ⟨by simp [allowedOut, allowedOk, hv, ha, hh, ho, hd]⟩
            have hval : validT t = true := by simp [fitsT] at hv; exact hv.1
            have hql : q.length = t.length := by simp [fitsT] at hv; exact hv.2.1
            have hbo : Aside0 (balOut t = (balT t, 0)) := ⟨by rw [balOut, hval]; rfl⟩
            have hbl : Aside0 ((balT t).length = t.length) := ⟨by simp [balT]⟩
            have hh2 : 0 ≤ h ∧ h < (t.length : Int) := by simpa [ins] using hh
            have ho2 : 0 ≤ o ∧ o < (t.length : Int) := by simpa [ins] using ho
            obtain ⟨hh0, hh1⟩ := hh2
            obtain ⟨oo0, oo1⟩ := ho2
            have hq1 : h < (q.length : Int) := by omega
            obtain ⟨adq, e, hxq⟩ := Kd.at_int HR1.out h hh0 hq1
            cases e
            obtain ⟨adt, A2, c2, e, hxt, hl2, hi2⟩ := at_L1 HR.out h hh0 hh1
            cases e
            have HI := Aside0.mk hi2
            obtain ⟨Bl, hBl⟩ : ∃ B, B = balT t := ⟨_, rfl⟩
            have NB := Aside0.mk hBl
            have hbl2 : Bl.length = t.length := by rw [hBl]; exact hbl.out
            have hob : o < (Bl.length : Int) := by omega
            have HBL := Aside0.mk hbl2
            clear hv ha hh ho hd hval hql hl2 hi2 hBl hbl2
            go_enter Try.func22, Try.ntmps22
            go_wp2_with (first | (go_at_call 46; refine (fits_any _ _ _ _ _ _ _ HR.out HR1.out).mono ?_; rw [hv'.out]; rintro e w' ⟨rfl, ⟨m, rfl⟩⟩) | (go_at_call 45; refine (within_any _ _).mono ?_; rw [ha'.out]; rintro e w' ⟨rfl, ⟨m2, rfl⟩⟩) | (go_at_call_of 51 (Value.int IntKind.i64 h); refine (inside51 h _ (some adt) t.length c _ (by simp)).mono ?_; rw [hh'.out]; rintro e w' ⟨rfl, rfl⟩) | (go_at_call_of 51 (Value.int IntKind.i64 o); refine (inside51 o _ (some adt) t.length c _ (by simp)).mono ?_; rw [ho'.out]; rintro e w' ⟨rfl, rfl⟩) | (go_at_call 16; refine (Balance_any _ _ _ _ (Kd.C_drewN HR.out _)).mono ?_; rw [hbo.out]; rintro e w1 ⟨v1, rfl, hR, hb⟩; replace hR : Kd.R (Kd.int .i64) 3 w1 _ (fun _ => True) v1 (balT t) := hR; rw [← NB.out] at hR; obtain ⟨A5, c5, e5⟩ := Kd.R_slice hR; subst e5; have hrd := (Kd.R_reads' hR).2.2; obtain ⟨ad5, e, hx5⟩ := Kd.at_int hrd o oo0 hob; cases e; obtain ⟨ad6, e, hx6⟩ := Kd.at_int (Kd.C_below (Kd.C_drewN HR1.out _) hb) h hh0 hq1; cases e; obtain ⟨ad7, A7, c7, e, hx7, _, hi7⟩ := at_L1 (Kd.C_below (Kd.C_drewN HR.out _) hb) h hh0 hh1; cases e; have HI7 := Aside0.mk hi7; have hbx : w1.cell? ⟨w.heap.size, 0, none⟩ = some (.slice (some adt) t.length c) := (hb.cell (p := ⟨w.heap.size, 0, none⟩) (by simp)).trans (by simp); have HB1 := Aside0.mk ((pw_below_drewN HB0.out _).trans (hb.mono (by simp))); clear hR hb hrd hi7))
            go_quiet ((go_at_call 52; exact Calls.quiet_of_same ((total_any _ _ _ _ (Kd.C_drewN HI7.out _)).mono (fun _ _ hh => ⟨hh.1, hh.2.symm⟩))))
            go_wp2
            all_goals
              go_ret2
              refine ⟨?_, pw_below_drewN HB1.out _⟩
              rw [hf.out, ← NB.out]
              exact ret2_int (by omega)

end Go.Proofs.Ytdljbmgknhbceaa.A
