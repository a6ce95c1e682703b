import Derived.Test.YtdljbmgknhbceaaA9
namespace Go.Proofs.Ytdljbmgknhbceaa.A
open Go.RowKit Go.Proofs.YtdljbmgknhbceaaW.PrintWords Go.Proofs.YtdljbmgknhbceaaW.PrintLast Go.Proofs.YtdljbmgknhbceaaW.PrintMore Go.Proofs.Ytdljbmgknhbceaa.Q
set_option linter.unusedVariables false
set_option linter.unusedSimpArgs false

/-- A row of numbers of the call's own: read and stored into. -/
theorem row_at {W : World} {base : Nat} {ok : Nat → Prop} {A : Option Addr} {n cap : Nat} {xs : List Int} (h : Kd.R (Kd.int .i64) 3 W base ok (.slice A n cap) xs) (j : Int) (j0 : 0 ≤ j) (j1 : j < xs.length) :
    ∃ g, A = some ⟨g, 0, none⟩ ∧ W.cell? ⟨g, j.toNat, none⟩ = some (.int .i64 (rd xs j)) ∧ W.frozen? ⟨g, j.toNat, none⟩ = false ∧ base ≤ g ∧
      ∀ x, Kd.R (Kd.int .i64) 3 (W.setCell ⟨g, j.toNat, none⟩ (.int .i64 x)) base ok (.slice A n cap) (xs.set j.toNat x) ∧ W.grownBy (W.setCell ⟨g, j.toNat, none⟩ (.int .i64 x)) (some g) := by
  obtain ⟨ad2, e, hx⟩ := Kd.at_int (Kd.R_reads' h).2.2 j j0 j1
  cases e
  obtain ⟨inner, ho⟩ := Kd.R_own h
  rcases ho.2 with ⟨h0, _⟩ | ⟨g, cap', cur, he, hbg, hh, _⟩
  · cases h0
  · injection he with he1 he2 he3
    injection he1 with he1
    subst he1
    refine ⟨g, rfl, ?_, ?_, hbg, fun x => Kd.R_putg h j x⟩
    · rwa [add_plain] at hx
    · simp [World.frozen?, hh]

def heldT (t : List (List Int)) : List Int := t.map fun r => wsum r 0
def part (f : Nat → Int) (old : List Int) (k : Nat) : List Int := (List.range k).map f ++ old.drop k
theorem part_zero (f : Nat → Int) (old : List Int) : part f old 0 = old := by simp [part]
theorem part_step (f : Nat → Int) (old : List Int) (k : Nat) (hk : k < old.length) : (part f old k).set k (f k) = part f old (k + 1) := by
  unfold part
  rw [List.set_append_right _ _ (by simp), List.length_map, List.length_range, Nat.sub_self, List.drop_eq_getElem_cons hk, List.set_cons_zero, List.range_succ, List.map_append, List.append_assoc]
  rfl
theorem part_length (f : Nat → Int) (old : List Int) (k : Nat) (hk : k ≤ old.length) : (part f old k).length = old.length := by simp [part]; omega
theorem part_full (f : Nat → Int) (old : List Int) : part f old old.length = (List.range old.length).map f := by simp [part]
theorem part_at (f : Nat → Int) (old : List Int) (k : Nat) (hk : k < old.length) : rd (part f old k) k = rd old k := by
  unfold part rd
  simp [List.getD_eq_getElem?_getD, List.getElem?_append_right]
theorem range_held (t : List (List Int)) : (List.range t.length).map (fun (i : Nat) => wsum (rd_L1 t (i : Int)) 0) = heldT t := by
  apply List.ext_getElem
  · simp [heldT]
  · intro i h1 h2
    have hi : i < t.length := by simpa using h1
    simp [heldT, rd_L1, List.getD_eq_getElem?_getD, List.getElem?_eq_getElem hi]

set_option maxHeartbeats 1000000 in
theorem held_any (A : Option Addr) (c : Nat) (t : List (List Int)) (w : World) (hr : Kd.C KT w A t.length t) (hn : t.length < 35184372088832) :
    Calls Try.prog 41 #[.slice A t.length c] w fun e w' => ∃ v : Value, e = .returned v ∧ Kd.R (Kd.int .i64) 3 w' w.heap.size (fun _ => True) v (heldT t) ∧ Below w.heap.size w w' := by
  have HR := Aside0.mk hr
  clear hr
  obtain ⟨Z, hZ⟩ : ∃ Z : List Int, Z = List.replicate t.length 0 := ⟨_, rfl⟩
  have hZl : Aside0 (Z.length = t.length) := ⟨by rw [hZ]; simp⟩
  have NZ := Aside0.mk hZ
  clear hZ
  have h0 : (0 : Int) ≤ (t.length : Int) := by omega
  have HL := Aside0.mk (show ((t.length : Int)).toNat * 8 ≤ 281474976710656 from by omega)
  go_enter Try.func41, Try.ntmps41
  go_wp2_with (first | ((with_reducible refine gate_dst (N := 8) rfl ?_); refine Kd.R_make (Kd.int .i64) _ 3 rfl (N := 8) rfl 31 _ _ rfl (t.length : Int) rfl rfl Try.underlying31 (.int .i64 0) 8 info3 rfl (by decide) (by omega) 0 (ok := fun _ => True) (okp := fun _ => True) rfl (fun _ hk => hk) trivial h0 HL.out (Below.refl _ _) (Nat.le_refl _) ?_; intro v163 w4 ho5 hb hg_ hnew_; clear hg_ hnew_; rw [Int.toNat_natCast, ← NZ.out] at ho5; have HO := Aside0.mk ho5; have HB := Aside0.mk hb; clear hb ho5))
  go_loopw [11] (fun i wr => ∃ k : Nat, k ≤ t.length ∧ i = .int .i64 k ∧ Aside0 (Kd.R (Kd.int .i64) 3 wr w.heap.size (fun _ => True) v163 (part (fun (i : Nat) => wsum (rd_L1 t (i : Int)) 0) Z k)) ∧ Aside0 (Below w.heap.size w wr)) (fun i _ => t.length - (intOf i).toNat)
  case atStart => exact ⟨0, by omega, rfl, ⟨by rw [part_zero]; exact HO.out⟩, HB⟩
  case round =>
    clear HO HB
    obtain ⟨k, hk, rfl, HO, HB⟩ := hrel
    by_cases hlt : k < t.length
    · obtain ⟨ad, A1, c1, e, hx, hl1, hi⟩ := at_L1 (Kd.C_below HR.out HB.out) k (by omega) (by omega)
      cases e
      rw [Int.toNat_natCast] at hx
      have HI := Aside0.mk hi
      obtain ⟨P, hP⟩ : ∃ P, P = part (fun (i : Nat) => wsum (rd_L1 t (i : Int)) 0) Z k := ⟨_, rfl⟩
      have hPl : Aside0 (P.length = t.length) := ⟨by rw [hP, part_length _ _ _ (by rw [hZl.out]; omega), hZl.out]⟩
      have hst : Aside0 (P.set k (wsum (rd_L1 t (k : Int)) 0) = part (fun (i : Nat) => wsum (rd_L1 t (i : Int)) 0) Z (k + 1)) := ⟨by rw [hP]; exact part_step (fun (i : Nat) => wsum (rd_L1 t (i : Int)) 0) Z k (by rw [hZl.out]; exact hlt)⟩
      rw [← hP] at HO
      clear hP hl1 hi
      obtain ⟨A3, c3, rfl⟩ := Kd.R_slice HO.out
      obtain ⟨g, e, hc1, hf1, hbg, hput⟩ := row_at HO.out k (by omega) (by rw [hPl.out]; omega)
      cases e
      rw [Int.toNat_natCast] at hc1 hf1
      have HP := Aside0.mk hput
      have hkl : (k : Int) < (P.length : Int) := by rw [hPl.out]; omega
      clear hput
      go_wp2_with (first | (go_at_call 52; refine (total_any _ _ _ _ HI.out).mono ?_; rintro e w' ⟨rfl, rfl⟩))
      go_roundw
      case rel => exact ⟨k + 1, by omega, by go_num, ⟨by rw [← hst.out]; exact (HP.out _).1⟩, ⟨HB.out.setCell hbg _⟩⟩
      case measure => simp [intOf]; omega
    · have hf : Aside0 (part (fun (i : Nat) => wsum (rd_L1 t (i : Int)) 0) Z k = heldT t) := ⟨by
        obtain rfl : k = Z.length := by rw [hZl.out]; omega
        rw [part_full, hZl.out, range_held]⟩
      go_wp2
      go_ret
      exact ⟨_, rfl, by have := HO.out; rwa [hf.out] at this, HB.out⟩

def heldOut (t : List (List Int)) : List Int × Int := if validT t = true then (heldT t, 0) else ([], 1)
theorem Held_any (A : Option Addr) (c : Nat) (t : List (List Int)) (w : World) (hr : Kd.C KT w A t.length t) :
    Calls Try.prog 21 #[.slice A t.length c] w fun e w' => ∃ v : Value, e = .returned (.tuple #[v, .int .i64 (heldOut t).2]) ∧ Kd.R (Kd.int .i64) 3 w' w.heap.size (fun _ => True) v (heldOut t).1 ∧ Below w.heap.size w w' := by
  have HR := Aside0.mk hr
  clear hr
  cases hv : validT t with
  | false =>
    have hv' := Aside0.mk hv
    have hf : Aside0 (heldOut t = ([], 1)) := ⟨by rw [heldOut, hv]; rfl⟩
    clear hv
    go_enter Try.func21, Try.ntmps21
    go_wp2_with (go_at_call 18; refine (valid_any _ _ _ _ HR.out).mono ?_; rw [hv'.out]; rintro e w' ⟨rfl, ⟨m, rfl⟩⟩)
    go_ret2
    exact ⟨_, by rw [hf.out]; rfl, by rw [hf.out]; exact Kd.R_nil _ _ _ _ _, pw_below_drewN (Below.refl _ _) _⟩
  | true =>
    have hv' := Aside0.mk hv
    have hf : Aside0 (heldOut t = (heldT t, 0)) := ⟨by rw [heldOut, hv]; rfl⟩
    have hn : t.length < 35184372088832 := by simp [validT] at hv; omega
    clear hv
    go_enter Try.func21, Try.ntmps21
    go_wp2_with (first | (go_at_call 18; refine (valid_any _ _ _ _ HR.out).mono ?_; rw [hv'.out]; rintro e w' ⟨rfl, ⟨m, rfl⟩⟩) | (go_at_call 41; refine (held_any _ _ _ _ (Kd.C_drewN HR.out _) hn).mono ?_; rintro e w1 ⟨v1, rfl, hR, hb⟩; have HO := Aside0.mk hR; have HB := Aside0.mk hb; clear hR hb))
    go_ret2
    exact ⟨_, by rw [hf.out]; rfl, by rw [hf.out]; exact HO.out, (pw_below_drewN (Below.refl _ _) _).trans HB.out⟩

def balT (t : List (List Int)) : List Int := (List.range t.length).map fun (d : Nat) => wrap64 (wsum (column t d) 0 - wsum (rd_L1 t (d : Int)) 0)
def balOut (t : List (List Int)) : List Int × Int := if validT t = true then (balT t, 0) else ([], 1)
theorem rd_held (t : List (List Int)) (k : Nat) (hk : k < t.length) : rd (heldT t) k = wsum (rd_L1 t (k : Int)) 0 := by
  simp [rd, heldT, rd_L1, List.getD_eq_getElem?_getD, List.getElem?_eq_getElem hk]
theorem valid_sq {t : List (List Int)} (h : validT t = true) : t.length ≤ 12 ∧ ∀ r ∈ t, r.length = t.length ∧ badAny r = false := by
  simp only [validT, Bool.and_eq_true, decide_eq_true_eq] at h
  refine ⟨h.2, ?_⟩
  have : ∀ (l : List (List Int)) (n k : Nat), rowsOk n l k = true → ∀ r ∈ l, r.length = n ∧ badAny r = false := by
    intro l
    induction l with
    | nil => intro n k _ r hr; cases hr
    | cons x xs ih =>
      intro n k hx r hr
      simp only [rowsOk, rowOk, Bool.and_eq_true, decide_eq_true_eq, Bool.not_eq_true'] at hx
      rcases List.mem_cons.1 hr with rfl | hr
      · exact ⟨hx.1.1, hx.1.2.2⟩
      · exact ih n (k + 1) hx.2 r hr
  exact this t t.length 0 h.1

set_option maxHeartbeats 1000000 in
theorem Balance_any (A : Option Addr) (c : Nat) (t : List (List Int)) (w : World) (hr : Kd.C KT w A t.length t) :
    Calls Try.prog 16 #[.slice A t.length c] w fun e w' => ∃ v : Value, e = .returned (.tuple #[v, .int .i64 (balOut t).2]) ∧ Kd.R (Kd.int .i64) 3 w' w.heap.size (fun _ => True) v (balOut t).1 ∧ Below w.heap.size w w' := by
  have HR := Aside0.mk hr
  clear hr
  cases hv : validT t with
  | false =>
    have hv' := Aside0.mk hv
    have hf : Aside0 (balOut t = ([], 1)) := ⟨by rw [balOut, hv]; rfl⟩
    clear hv
    go_enter Try.func16, Try.ntmps16
    go_wp2_with (go_at_call 18; refine (valid_any _ _ _ _ HR.out).mono ?_; rw [hv'.out]; rintro e w' ⟨rfl, ⟨m, rfl⟩⟩)
    go_ret2
    exact ⟨_, by rw [hf.out]; rfl, by rw [hf.out]; exact Kd.R_nil _ _ _ _ _, pw_below_drewN (Below.refl _ _) _⟩
  | true =>
    have hv' := Aside0.mk hv
    have hf : Aside0 (balOut t = (balT t, 0)) := ⟨by rw [balOut, hv]; rfl⟩
    have hq := (valid_sq hv).2
    have hn12 := (valid_sq hv).1
    have HQ := Aside0.mk hq
    obtain ⟨Z, hZ⟩ : ∃ Z, Z = heldT t := ⟨_, rfl⟩
    have NZ := Aside0.mk hZ
    have hZl : Aside0 (Z.length = t.length) := ⟨by rw [hZ]; simp [heldT]⟩
    have hn : t.length < 35184372088832 := by omega
    clear hv hq hZ
    go_enter Try.func16, Try.ntmps16
    go_wp2_with (first | (go_at_call 18; refine (valid_any _ _ _ _ HR.out).mono ?_; rw [hv'.out]; rintro e w' ⟨rfl, ⟨m, rfl⟩⟩) | (go_at_call 41; refine (held_any _ _ _ _ (Kd.C_drewN HR.out _) hn).mono ?_; rintro e w1 ⟨v1, rfl, hR, hb⟩; rw [← NZ.out] at hR; obtain ⟨A2, c2, e2⟩ : ∃ A c, v1 = .slice A t.length c := (by obtain ⟨A, c, e⟩ := Kd.R_slice hR; exact ⟨A, c, by rw [e, hZl.out]⟩); subst e2; have HO := Aside0.mk hR; have HB := Aside0.mk ((pw_below_drewN (Below.refl _ _) _).trans hb); clear hR hb))
    go_loopw [14] (fun i wr => ∃ k : Nat, k ≤ t.length ∧ i = .int .i64 k ∧ Aside0 (Kd.R (Kd.int .i64) 3 wr w.heap.size (fun _ => True) (.slice A2 t.length c2) (part (fun (d : Nat) => wrap64 (wsum (column t d) 0 - wsum (rd_L1 t (d : Int)) 0)) Z k)) ∧ Aside0 (Below w.heap.size w wr)) (fun i _ => t.length - (intOf i).toNat)
    case atStart => exact ⟨0, by omega, rfl, ⟨by rw [part_zero]; exact HO.out⟩, HB⟩
    case round =>
      clear HO HB
      obtain ⟨k, hk, rfl, HO, HB⟩ := hrel
      by_cases hlt : k < t.length
      · obtain ⟨P, hP⟩ : ∃ P, P = part (fun (d : Nat) => wrap64 (wsum (column t d) 0 - wsum (rd_L1 t (d : Int)) 0)) Z k := ⟨_, rfl⟩
        have hPl : Aside0 (P.length = t.length) := ⟨by rw [hP, part_length _ _ _ (by rw [hZl.out]; omega), hZl.out]⟩
        have hst : Aside0 (P.set k (wrap64 (wsum (column t k) 0 - wsum (rd_L1 t (k : Int)) 0)) = part (fun (d : Nat) => wrap64 (wsum (column t d) 0 - wsum (rd_L1 t (d : Int)) 0)) Z (k + 1)) := ⟨by rw [hP]; exact part_step (fun (d : Nat) => wrap64 (wsum (column t d) 0 - wsum (rd_L1 t (d : Int)) 0)) Z k (by rw [hZl.out]; exact hlt)⟩
        have hrdk : rd P k = wsum (rd_L1 t (k : Int)) 0 := by rw [hP, part_at _ _ _ (by rw [hZl.out]; exact hlt), NZ.out, rd_held _ _ hlt]
        rw [← hP] at HO
        clear hP
        obtain ⟨g, e, hc1, hf1, hbg, hput⟩ := row_at HO.out k (by omega) (by rw [hPl.out]; omega)
        cases e
        rw [Int.toNat_natCast] at hc1 hf1
        rw [hrdk] at hc1
        have HP := Aside0.mk hput
        clear hput hrdk
        go_wp2_with (first | (go_at_call 42; refine (stored_any _ _ _ _ _ (Kd.C_below HR.out HB.out) (by omega) (fun r hr => by rw [(HQ.out r hr).1]; omega)).mono ?_; rintro e w1 ⟨rfl, hb⟩; obtain ⟨g2, e, hc2, hf2, hbg2, hput2⟩ := row_at (Kd.R_below HO.out hb) k (by omega) (by rw [hPl.out]; omega); cases e; rw [Int.toNat_natCast] at hc2 hf2; have HP2 := Aside0.mk hput2; have HB2 := Aside0.mk (below_step HB.out hb); clear hput2 hb))
        go_roundw
        case rel => exact ⟨k + 1, by omega, by go_num, ⟨by rw [← hst.out]; exact (HP2.out _).1⟩, ⟨HB2.out.setCell hbg _⟩⟩
        case measure => simp [intOf]; omega
      · have hf2 : Aside0 (part (fun (d : Nat) => wrap64 (wsum (column t d) 0 - wsum (rd_L1 t (d : Int)) 0)) Z k = balT t) := ⟨by
          obtain rfl : k = Z.length := by rw [hZl.out]; omega
          rw [part_full, hZl.out]; rfl⟩
        go_wp2
        go_ret2
        exact ⟨_, by rw [hf.out]; rfl, by rw [hf.out]; have := HO.out; rwa [hf2.out] at this, HB.out⟩

end Go.Proofs.Ytdljbmgknhbceaa.A
