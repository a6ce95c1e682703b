import Derived.Test.YtdljbmgknhbceaaQx0
import Derived.WalkSpells
namespace Go.Proofs.Ytdljbmgknhbceaa.A
open Go.RowKit Go.Proofs.YtdljbmgknhbceaaW.PrintWords Go.Proofs.YtdljbmgknhbceaaW.PrintLast Go.Proofs.YtdljbmgknhbceaaW.PrintMore
set_option linter.unusedVariables false
set_option linter.unusedSimpArgs false

/-- The sum of numbers, wrapped at each step. -/
def wsum : List Int → Int → Int
  | [], s => s
  | x :: xs, s => wsum xs (wrap64 (s + x))

theorem wsum_snoc (xs : List Int) (y s : Int) : wsum (xs ++ [y]) s = wrap64 (wsum xs s + y) := by
  induction xs generalizing s with
  | nil => rfl
  | cons x xs ih => exact ih _

theorem total1 (n : Int) (w : World) : Calls Try.prog 69 #[.int .i64 n] w fun e w' => e = .returned (.int .i64 n) ∧ w = w' := by
  go_enter Try.func69, Try.ntmps69
  go_wp2
  go_ret
  exact ⟨rfl, rfl⟩

set_option maxHeartbeats 400000 in
theorem sum_total (A : Option Addr) (c : Nat) (l : List Int) (w : World) (hr : Kd.C (Kd.int .i64) w A l.length l) :
    Calls Try.prog 68 #[.slice A l.length c, .func (.func 69) #[] #[]] w fun e w' => e = .returned (.int .i64 (wsum l 0)) ∧ w = w' := by
  have HR := Aside0.mk hr
  have hm : l.length ≤ 9223372036854775807 := hr.2.1
  clear hr
  go_enter Try.func68, Try.ntmps68
  go_wp2
  go_loop [5, 10] (fun t i => ∃ k : Nat, k ≤ l.length ∧ i = .int .i64 k ∧ t = .int .i64 (wsum (l.take k) 0)) (fun _ i => l.length - (intOf i).toNat)
  case atStart => exact ⟨0, by omega, rfl, rfl⟩
  case round =>
    obtain ⟨k, hk, rfl, rfl⟩ := hrel
    by_cases hlt : k < l.length
    · obtain ⟨ad, e, hx⟩ := Kd.at_int HR.out k (by omega) (by omega)
      cases e
      rw [Int.toNat_natCast] at hx
      have hs : wsum (l.take (k + 1)) 0 = wrap64 (wsum (l.take k) 0 + rd l k) := by
        rw [List.take_succ_eq_append_getElem hlt, wsum_snoc]; simp [rd, List.getD_eq_getElem?_getD, List.getElem?_eq_getElem hlt]
      have HS := Aside0.mk hs
      clear hs
      go_wp2_with (go_at_call 69; refine (total1 _ _).mono ?_; rintro e w' ⟨rfl, rfl⟩)
      go_round
      case rel => exact ⟨k + 1, by omega, by go_num, by rw [HS.out]⟩
      case measure => simp [intOf]; omega
    · go_wp2
      go_ret
      exact ⟨by rw [List.take_of_length_le (by omega)]; rfl, rfl⟩

end Go.Proofs.Ytdljbmgknhbceaa.A

namespace Go.Proofs.Ytdljbmgknhbceaa.A
open Go.RowKit Go.Proofs.YtdljbmgknhbceaaW.PrintWords Go.Proofs.YtdljbmgknhbceaaW.PrintLast Go.Proofs.YtdljbmgknhbceaaW.PrintMore
set_option linter.unusedVariables false
set_option linter.unusedSimpArgs false

def okN (n : Int) : Bool := decide (0 ≤ n) && decide (n ≤ 1099511627776)

theorem within_any (n : Int) (w : World) : Calls Try.prog 45 #[.int .i64 n] w fun e w' => e = .returned (.bool (okN n)) ∧ Drawn0 w w' := by
  by_cases h0 : 0 ≤ n
  · have h0b : decide (0 ≤ n) = true := by simpa using h0
    by_cases h1 : n ≤ 1099511627776
    · have h1b : decide (n ≤ 1099511627776) = true := by simpa using h1
      have hf : Aside0 (okN n = true) := ⟨by simp [okN, h0, h1]⟩
      go_enter Try.func45, Try.ntmps45
      go_wp2
      repeat (go_quiet (fail); try go_wp2)
      go_ret
      exact ⟨by rw [hf.out]; first | rfl | simp, by repeat (first | exact Drawn0.refl _ | apply Drawn0.step)⟩
    · have h1b : decide (n ≤ 1099511627776) = false := by simpa using h1
      have hf : Aside0 (okN n = false) := ⟨by simp [okN, h1]⟩
      go_enter Try.func45, Try.ntmps45
      go_wp2
      repeat (go_quiet (fail); try go_wp2)
      go_ret
      exact ⟨by rw [hf.out]; first | rfl | simp, by repeat (first | exact Drawn0.refl _ | apply Drawn0.step)⟩
  · have h0b : decide (0 ≤ n) = false := by simpa using h0
    have hf : Aside0 (okN n = false) := ⟨by simp [okN, h0]⟩
    go_enter Try.func45, Try.ntmps45
    go_wp2
    repeat (go_quiet (fail); try go_wp2)
    go_ret
    exact ⟨by rw [hf.out]; first | rfl | simp, by repeat (first | exact Drawn0.refl _ | apply Drawn0.step)⟩

theorem bad44 (n : Int) (w : World) : Calls Try.prog 44 #[.int .i64 n] w fun e w' => e = .returned (.bool (!okN n)) ∧ Drawn0 w w' := by
  go_enter Try.func44, Try.ntmps44
  go_wp2_with (go_at_call 45; refine (within_any _ _).mono ?_; rintro e w' ⟨rfl, ⟨m, rfl⟩⟩)
  go_ret
  exact ⟨rfl, by repeat (first | exact Drawn0.refl _ | apply Drawn0.step)⟩
theorem bad66 (n : Int) (w : World) : Calls Try.prog 66 #[.int .i64 n] w fun e w' => e = .returned (.bool (!okN n)) ∧ Drawn0 w w' := by
  go_enter Try.func66, Try.ntmps66
  go_wp2_with (go_at_call 45; refine (within_any _ _).mono ?_; rintro e w' ⟨rfl, ⟨m, rfl⟩⟩)
  go_ret
  exact ⟨rfl, by repeat (first | exact Drawn0.refl _ | apply Drawn0.step)⟩

/-- The index of the first number out of range, or -1. -/
def badAt : List Int → Nat → Int
  | [], _ => -1
  | x :: xs, i => if okN x then badAt xs (i + 1) else (i : Int)
def badAny (l : List Int) : Bool := l.any fun n => !okN n
theorem badAt_ge (l : List Int) (i : Nat) : decide (0 ≤ badAt l i) = badAny l := by
  induction l generalizing i with
  | nil => rfl
  | cons x xs ih =>
    unfold badAt badAny
    cases h : okN x with
    | true => simpa [badAny, h] using ih (i + 1)
    | false => simp [h]
theorem badAt_drop (l : List Int) (k : Nat) (hk : k < l.length) : badAt (l.drop k) k = if okN (rd l k) then badAt (l.drop (k + 1)) (k + 1) else (k : Int) := by
  rw [List.drop_eq_getElem_cons hk, badAt]
  simp [rd, List.getD_eq_getElem?_getD, List.getElem?_eq_getElem hk]

set_option maxHeartbeats 400000 in
theorem index44 (A : Option Addr) (c : Nat) (l : List Int) (w : World) (hr : Kd.C (Kd.int .i64) w A l.length l) :
    Calls Try.prog 65 #[.slice A l.length c, .func (.func 44) #[] #[]] w fun e w' => e = .returned (.int .i64 (badAt l 0)) ∧ Drawn0 w w' := by
  have HR := Aside0.mk hr
  have hm : l.length ≤ 9223372036854775807 := hr.2.1
  clear hr
  go_enter Try.func65, Try.ntmps65
  go_wp2
  go_loopw [8] (fun i w' => ∃ k : Nat, k ≤ l.length ∧ i = .int .i64 k ∧ Aside0 (badAt l 0 = badAt (l.drop k) k) ∧ Drawn0 w w') (fun i _ => l.length - (intOf i).toNat)
  case atStart => exact ⟨0, by omega, rfl, ⟨rfl⟩, Drawn0.refl _⟩
  case round =>
    obtain ⟨k, hk, rfl, HB, ⟨m, rfl⟩⟩ := hrel
    by_cases hlt : k < l.length
    · obtain ⟨ad, e, hx⟩ := Kd.at_int HR.out k (by omega) (by omega)
      cases e
      rw [Int.toNat_natCast] at hx
      have hs := Aside0.mk (badAt_drop l k hlt)
      cases hb : okN (rd l k) with
      | true =>
        have hb' := Aside0.mk hb
        have hn : (!okN (rd l k)) = false := by rw [hb]; rfl
        clear hb
        go_wp2_with (go_at_call 44; refine (bad44 _ _).mono ?_; rintro e w' ⟨rfl, ⟨m2, rfl⟩⟩)
        go_roundw
        case rel => exact ⟨k + 1, by omega, by go_num, ⟨by rw [HB.out, hs.out, if_pos hb'.out]⟩, by repeat (first | exact Drawn0.refl _ | apply Drawn0.step)⟩
        case measure => simp [intOf]; omega
      | false =>
        have hb' := Aside0.mk hb
        have hn : (!okN (rd l k)) = true := by rw [hb]; rfl
        clear hb
        go_wp2_with (go_at_call 44; refine (bad44 _ _).mono ?_; rintro e w' ⟨rfl, ⟨m2, rfl⟩⟩)
        go_ret
        exact ⟨by rw [HB.out, hs.out, if_neg (by rw [hb'.out]; simp)]; rfl, by repeat (first | exact Drawn0.refl _ | apply Drawn0.step)⟩
    · have hd : Aside0 (badAt l 0 = -1) := ⟨by rw [HB.out, List.drop_of_length_le (by omega)]; rfl⟩
      go_wp2
      go_ret
      exact ⟨by rw [hd.out]; rfl, by repeat (first | exact Drawn0.refl _ | apply Drawn0.step)⟩

theorem contains44 (A : Option Addr) (c : Nat) (l : List Int) (w : World) (hr : Kd.C (Kd.int .i64) w A l.length l) :
    Calls Try.prog 43 #[.slice A l.length c, .func (.func 44) #[] #[]] w fun e w' => e = .returned (.bool (badAny l)) ∧ Drawn0 w w' := by
  have HR := Aside0.mk hr
  clear hr
  have hb := Aside0.mk (badAt_ge l 0)
  go_enter Try.func43, Try.ntmps43
  go_wp2_with (go_at_call 65; refine (index44 _ _ _ _ HR.out).mono ?_; rintro e w' ⟨rfl, ⟨m, rfl⟩⟩)
  go_ret
  exact ⟨by rw [← hb.out]; rfl, by repeat (first | exact Drawn0.refl _ | apply Drawn0.step)⟩

set_option maxHeartbeats 400000 in
theorem index66 (A : Option Addr) (c : Nat) (l : List Int) (w : World) (hr : Kd.C (Kd.int .i64) w A l.length l) :
    Calls Try.prog 65 #[.slice A l.length c, .func (.func 66) #[] #[]] w fun e w' => e = .returned (.int .i64 (badAt l 0)) ∧ Drawn0 w w' := by
  have HR := Aside0.mk hr
  have hm : l.length ≤ 9223372036854775807 := hr.2.1
  clear hr
  go_enter Try.func65, Try.ntmps65
  go_wp2
  go_loopw [8] (fun i w' => ∃ k : Nat, k ≤ l.length ∧ i = .int .i64 k ∧ Aside0 (badAt l 0 = badAt (l.drop k) k) ∧ Drawn0 w w') (fun i _ => l.length - (intOf i).toNat)
  case atStart => exact ⟨0, by omega, rfl, ⟨rfl⟩, Drawn0.refl _⟩
  case round =>
    obtain ⟨k, hk, rfl, HB, ⟨m, rfl⟩⟩ := hrel
    by_cases hlt : k < l.length
    · obtain ⟨ad, e, hx⟩ := Kd.at_int HR.out k (by omega) (by omega)
      cases e
      rw [Int.toNat_natCast] at hx
      have hs := Aside0.mk (badAt_drop l k hlt)
      cases hb : okN (rd l k) with
      | true =>
        have hb' := Aside0.mk hb
        have hn : (!okN (rd l k)) = false := by rw [hb]; rfl
        clear hb
        go_wp2_with (go_at_call 66; refine (bad66 _ _).mono ?_; rintro e w' ⟨rfl, ⟨m2, rfl⟩⟩)
        go_roundw
        case rel => exact ⟨k + 1, by omega, by go_num, ⟨by rw [HB.out, hs.out, if_pos hb'.out]⟩, by repeat (first | exact Drawn0.refl _ | apply Drawn0.step)⟩
        case measure => simp [intOf]; omega
      | false =>
        have hb' := Aside0.mk hb
        have hn : (!okN (rd l k)) = true := by rw [hb]; rfl
        clear hb
        go_wp2_with (go_at_call 66; refine (bad66 _ _).mono ?_; rintro e w' ⟨rfl, ⟨m2, rfl⟩⟩)
        go_ret
        exact ⟨by rw [HB.out, hs.out, if_neg (by rw [hb'.out]; simp)]; rfl, by repeat (first | exact Drawn0.refl _ | apply Drawn0.step)⟩
    · have hd : Aside0 (badAt l 0 = -1) := ⟨by rw [HB.out, List.drop_of_length_le (by omega)]; rfl⟩
      go_wp2
      go_ret
      exact ⟨by rw [hd.out]; rfl, by repeat (first | exact Drawn0.refl _ | apply Drawn0.step)⟩

theorem contains66 (A : Option Addr) (c : Nat) (l : List Int) (w : World) (hr : Kd.C (Kd.int .i64) w A l.length l) :
    Calls Try.prog 43 #[.slice A l.length c, .func (.func 66) #[] #[]] w fun e w' => e = .returned (.bool (badAny l)) ∧ Drawn0 w w' := by
  have HR := Aside0.mk hr
  clear hr
  have hb := Aside0.mk (badAt_ge l 0)
  go_enter Try.func43, Try.ntmps43
  go_wp2_with (go_at_call 65; refine (index66 _ _ _ _ HR.out).mono ?_; rintro e w' ⟨rfl, ⟨m, rfl⟩⟩)
  go_ret
  exact ⟨by rw [← hb.out]; rfl, by repeat (first | exact Drawn0.refl _ | apply Drawn0.step)⟩

end Go.Proofs.Ytdljbmgknhbceaa.A

namespace Go.Proofs.Ytdljbmgknhbceaa.A
open Go.RowKit Go.Proofs.YtdljbmgknhbceaaW.PrintWords Go.Proofs.YtdljbmgknhbceaaW.PrintLast Go.Proofs.YtdljbmgknhbceaaW.PrintMore Go.Proofs.Ytdljbmgknhbceaa.Q
set_option linter.unusedVariables false
set_option linter.unusedSimpArgs false

theorem total_any (A : Option Addr) (c : Nat) (l : List Int) (w : World) (hr : Kd.C (Kd.int .i64) w A l.length l) :
    Calls Try.prog 52 #[.slice A l.length c] w fun e w' => e = .returned (.int .i64 (wsum l 0)) ∧ w = w' := by
  have HR := Aside0.mk hr
  clear hr
  go_enter Try.func52, Try.ntmps52
  go_wp2_with (go_at_call 68; refine (sum_total _ _ _ _ HR.out).mono ?_; rintro e w' ⟨rfl, rfl⟩)
  go_ret
  exact ⟨rfl, rfl⟩

theorem cell64 (A : Option Addr) (c : Nat) (l : List Int) (b : Nat) (o : Int) (w : World) (hr : Kd.C (Kd.int .i64) w A l.length l) (hb : w.cell? ⟨b, 0, none⟩ = some (.int .i64 o)) (h0 : 0 ≤ o) (h1 : o < l.length) :
    Calls Try.prog 64 #[.slice A l.length c, .pointer (some ⟨b, 0, none⟩)] w fun e w' => e = .returned (.int .i64 (rd l o)) ∧ w = w' := by
  obtain ⟨ad, e, hx⟩ := Kd.at_int hr o h0 h1
  cases e
  clear hr
  go_enter Try.func64, Try.ntmps64
  go_wp2
  go_ret
  exact ⟨rfl, rfl⟩

def column (t : List (List Int)) (o : Int) : List Int := t.map fun r => rd r o

set_option maxHeartbeats 400000 in
theorem sum_stored (A : Option Addr) (c : Nat) (t : List (List Int)) (b : Nat) (o : Int) (w : World) (hr : Kd.C (Kd.slice 3 (Kd.int .i64)) w A t.length t) (hb : w.cell? ⟨b, 0, none⟩ = some (.int .i64 o)) (h0 : 0 ≤ o) (h1 : ∀ r ∈ t, o < (r.length : Int)) :
    Calls Try.prog 63 #[.slice A t.length c, .func (.func 64) #[] #[.pointer (some ⟨b, 0, none⟩)]] w fun e w' => e = .returned (.int .i64 (wsum (column t o) 0)) ∧ w = w' := by
  have HR := Aside0.mk hr
  have hm : t.length ≤ 9223372036854775807 := hr.2.1
  have H1 := Aside0.mk h1
  clear hr h1
  go_enter Try.func63, Try.ntmps63
  go_wp2
  go_loop [5, 10] (fun s i => ∃ k : Nat, k ≤ t.length ∧ i = .int .i64 k ∧ s = .int .i64 (wsum ((column t o).take k) 0)) (fun _ i => t.length - (intOf i).toNat)
  case atStart => exact ⟨0, by omega, rfl, rfl⟩
  case round =>
    obtain ⟨k, hk, rfl, rfl⟩ := hrel
    by_cases hlt : k < t.length
    · obtain ⟨ad, A1, c1, e, hx, hl, hi⟩ := at_L1 HR.out k (by omega) (by omega)
      cases e
      rw [Int.toNat_natCast] at hx
      have hg : rd_L1 t k = t[k] := by simp [rd_L1, List.getD_eq_getElem?_getD, List.getElem?_eq_getElem hlt]
      have ho : o < ((rd_L1 t k).length : Int) := by rw [hg]; exact H1.out _ (List.getElem_mem hlt)
      have hs : wsum ((column t o).take (k + 1)) 0 = wrap64 (wsum ((column t o).take k) 0 + rd (rd_L1 t k) o) := by
        rw [List.take_succ_eq_append_getElem (by simpa [column] using hlt), wsum_snoc, hg]; simp [column]
      have HS := Aside0.mk hs
      have HI := Aside0.mk hi
      clear hs hi hg
      go_wp2_with (go_at_call 64; refine (cell64 _ _ _ _ _ _ HI.out hb h0 ho).mono ?_; rintro e w' ⟨rfl, rfl⟩)
      go_round
      case rel => exact ⟨k + 1, by omega, by go_num, by rw [HS.out]⟩
      case measure => simp [intOf]; omega
    · go_wp2
      go_ret
      exact ⟨by rw [List.take_of_length_le (by simpa [column] using (by omega : t.length ≤ k))]; rfl, rfl⟩

theorem stored_any (A : Option Addr) (c : Nat) (t : List (List Int)) (o : Int) (w : World) (hr : Kd.C (Kd.slice 3 (Kd.int .i64)) w A t.length t) (h0 : 0 ≤ o) (h1 : ∀ r ∈ t, o < (r.length : Int)) :
    Calls Try.prog 42 #[.slice A t.length c, .int .i64 o] w fun e w' => e = .returned (.int .i64 (wsum (column t o) 0)) ∧ Below w.heap.size w w' := by
  have HR := Aside0.mk hr
  have H1 := Aside0.mk h1
  clear hr h1
  go_enter Try.func42, Try.ntmps42
  go_wp2_with (go_at_call 63; refine (sum_stored _ _ _ _ o _ (Kd.C_below HR.out ((Below.refl _ _).alloc (Nat.le_refl _) _)) (by simp) h0 H1.out).mono ?_; rintro e w' ⟨rfl, rfl⟩)
  go_ret
  exact ⟨rfl, (Below.refl _ _).alloc (Nat.le_refl _) _⟩

end Go.Proofs.Ytdljbmgknhbceaa.A

namespace Go.Proofs.Ytdljbmgknhbceaa.A
open Go.RowKit Go.Proofs.YtdljbmgknhbceaaW.PrintWords Go.Proofs.YtdljbmgknhbceaaW.PrintLast Go.Proofs.YtdljbmgknhbceaaW.PrintMore Go.Proofs.Ytdljbmgknhbceaa.Q
set_option linter.unusedVariables false
set_option linter.unusedSimpArgs false

theorem clone_any (A : Option Addr) (c : Nat) (l : List Int) (w : World) (hr : Kd.C (Kd.int .i64) w A l.length l) (hl : l.length < 17592186044416) :
    Calls Try.prog 62 #[.slice A l.length c] w fun e w' => ∃ v : Value, e = .returned v ∧ Kd.R (Kd.int .i64) 3 w' w.heap.size (fun _ => True) v l ∧ Below w.heap.size w w' := by
  have HR := Aside0.mk hr
  have HL := Aside0.mk hl
  clear hr hl
  have qT : ∀ (w : World) (a : Option Addr) (n c n' c' : Nat), (binOp .eql 31 (.slice a n c) (.slice none n' c')).run Try.prog w = .ok (.bool a.isNone) w := fun w a n c n' c' => Lib.run_eql_slice_nil w _ _ a n c n' c' Try.underlying31
  cases A with
  | none =>
    have h0 : l = [] := by
      rcases Nat.eq_zero_or_pos l.length with h | h
      · exact List.eq_nil_of_length_eq_zero h
      · obtain ⟨ad, e, _⟩ := HR.out.2.2 h
        cases e
    go_enter Try.func62, Try.ntmps62
    go_wp2
    go_ret
    exact ⟨_, rfl, by rw [h0]; exact Kd.R_nil _ _ _ _ _, Below.refl _ _⟩
  | some ad =>
    have hnn : (some ad).isNone = false := rfl
    obtain ⟨y, hy⟩ : ∃ y : List Int, y = [] := ⟨_, rfl⟩
    have Ny := Aside0.mk hy
    have HY := Aside0.mk (show y ++ l = l by rw [hy]; rfl)
    have HY0 := Aside0.mk (show y.length = 0 by rw [hy]; rfl)
    clear hy
    have HB := Aside0.mk (Below.refl w.heap.size w)
    go_enter Try.func62, Try.ntmps62
    go_wp2_with (first | ((with_reducible refine gate_dst (N := 5) rfl ?_); refine Kd.R_lit (Kd.int .i64) _ 3 ?hg (N := 5) ?hd (xs := ([] : List Int)) (inner := []) (ok := fun _ => True) (okp := fun _ => True) ?hr ?hp (fun _ hk => hk) trivial (Below.refl _ _) (Nat.le_refl _) (by simp) ?_; (case hd => rfl); (case hg => rfl); (case hr => first | (go_simp; done) | (go_simp; rfl)); (case hp => exact (Reps.none _ _)); intro v166 w8 ho9 hb hg_ hnew_; clear hg_ hnew_; rw [← Ny.out] at ho9; have HO167 := Aside0.mk ho9; have n2_ := Aside0.mk (below_step HB.out hb); clear HB; have HB := n2_; clear n2_; clear hb ho9) | ((with_reducible refine gate_builtin (b := .append) (xs := #[.tmp 5, .tmp 6]) rfl ?_); at_builtin; refine Kd.R_append_rows (Kd.int .i64) (w0 := w) w.heap.size rfl (.tmp 5) (.tmp 6) 31 3 (.int .i64 0) 8 rfl Try.underlying31 info3 rfl (by decide) (by omega) v166 y l _ _ _ (fun _ => True) (fun _ => False) rfl rfl ?aO ?aR (fun _ _ h => h) (fun _ h => h.elim) ?aF ?aB ?aS ?aL ?_; (case aR => exact (Kd.C_below HR.out HB.out)); (case aB => exact HB.out); (case aF => exact (fun _ _ => trivial)); (case aO => exact HO167.out); (case aS => exact (below_size HB.out)); (case aL => have := HL.out; have := HY0.out; omega); intro v170 w10 ho hb hg hat; rw [HY.out] at ho; have n1_ := Aside0.mk (hb); have n2_ := Aside0.mk (ho); clear HB; clear HO167; have HB := n1_; have HO171 := n2_; clear n1_ n2_; clear ho hb hg hat))
    go_ret
    exact ⟨_, rfl, HO171.out, HB.out⟩

end Go.Proofs.Ytdljbmgknhbceaa.A

namespace Go.Proofs.Ytdljbmgknhbceaa.A
open Go.RowKit Go.Proofs.YtdljbmgknhbceaaW.PrintWords Go.Proofs.YtdljbmgknhbceaaW.PrintLast Go.Proofs.YtdljbmgknhbceaaW.PrintMore Go.Proofs.Ytdljbmgknhbceaa.Q
set_option linter.unusedVariables false
set_option linter.unusedSimpArgs false

/-- The first index of a number in a list, or -1. -/
def indexFrom (x : Int) : List Int → Nat → Int
  | [], _ => -1
  | y :: ys, i => if x = y then (i : Int) else indexFrom x ys (i + 1)
theorem indexFrom_ge (x : Int) (l : List Int) (i : Nat) : decide (0 ≤ indexFrom x l i) = l.contains x := by
  induction l generalizing i with
  | nil => rfl
  | cons y ys ih =>
    unfold indexFrom
    by_cases h : x = y
    · simp [h]
    · rw [if_neg h, ih]
      simp [h]
theorem indexFrom_drop (x : Int) (l : List Int) (k : Nat) (hk : k < l.length) : indexFrom x (l.drop k) k = if x = rd l k then (k : Int) else indexFrom x (l.drop (k + 1)) (k + 1) := by
  rw [List.drop_eq_getElem_cons hk, indexFrom]
  simp [rd, List.getD_eq_getElem?_getD, List.getElem?_eq_getElem hk]

set_option maxHeartbeats 400000 in
theorem index_any (A : Option Addr) (c : Nat) (l : List Int) (x : Int) (w : World) (hr : Kd.C (Kd.int .i64) w A l.length l) :
    Calls Try.prog 75 #[.slice A l.length c, .int .i64 x] w fun e w' => e = .returned (.int .i64 (indexFrom x l 0)) ∧ Drawn0 w w' := by
  have HR := Aside0.mk hr
  have hm : l.length ≤ 9223372036854775807 := hr.2.1
  clear hr
  go_enter Try.func75, Try.ntmps75
  go_wp2
  go_loopw [8] (fun i w' => ∃ k : Nat, k ≤ l.length ∧ i = .int .i64 k ∧ Aside0 (indexFrom x l 0 = indexFrom x (l.drop k) k) ∧ Drawn0 w w') (fun i _ => l.length - (intOf i).toNat)
  case atStart => exact ⟨0, by omega, rfl, ⟨rfl⟩, Drawn0.refl _⟩
  case round =>
    obtain ⟨k, hk, rfl, HB, ⟨m, rfl⟩⟩ := hrel
    by_cases hlt : k < l.length
    · obtain ⟨ad, e, hx⟩ := Kd.at_int HR.out k (by omega) (by omega)
      cases e
      rw [Int.toNat_natCast] at hx
      have hs := Aside0.mk (indexFrom_drop x l k hlt)
      have p0 : (0 : Int) ≤ k := by omega
      have p1 : (k : Int) < l.length := by omega
      by_cases hb : x = rd l k
      · have hb' := Aside0.mk hb
        have hn : (x == rd l k) = true := beq_iff_eq.2 hb
        have hn2 : (rd l k == x) = true := beq_iff_eq.2 hb.symm
        clear hb
        go_wp2
        repeat (go_quiet (fail); try go_wp2)
        go_ret
        exact ⟨by rw [HB.out, hs.out, if_pos hb'.out]; rfl, by repeat (first | exact Drawn0.refl _ | apply Drawn0.step)⟩
      · have hb' := Aside0.mk hb
        have hn : (x == rd l k) = false := beq_eq_false_iff_ne.2 hb
        have hn2 : (rd l k == x) = false := beq_eq_false_iff_ne.2 (Ne.symm hb)
        clear hb
        go_wp2
        repeat (go_quiet (fail); try go_wp2)
        go_roundw
        case rel => exact ⟨k + 1, by omega, by go_num, ⟨by rw [HB.out, hs.out, if_neg hb'.out]⟩, by repeat (first | exact Drawn0.refl _ | apply Drawn0.step)⟩
        case measure => simp [intOf]; omega
    · have hd : Aside0 (indexFrom x l 0 = -1) := ⟨by rw [HB.out, List.drop_of_length_le (by omega)]; rfl⟩
      go_wp2
      go_ret
      exact ⟨by rw [hd.out]; rfl, by repeat (first | exact Drawn0.refl _ | apply Drawn0.step)⟩

theorem contains_any (A : Option Addr) (c : Nat) (l : List Int) (x : Int) (w : World) (hr : Kd.C (Kd.int .i64) w A l.length l) :
    Calls Try.prog 71 #[.slice A l.length c, .int .i64 x] w fun e w' => e = .returned (.bool (l.contains x)) ∧ Drawn0 w w' := by
  have HR := Aside0.mk hr
  clear hr
  have hb := Aside0.mk (indexFrom_ge x l 0)
  go_enter Try.func71, Try.ntmps71
  go_wp2_with (go_at_call 75; refine (index_any _ _ _ _ _ HR.out).mono ?_; rintro e w' ⟨rfl, ⟨m, rfl⟩⟩)
  go_ret
  exact ⟨by rw [← hb.out]; rfl, by repeat (first | exact Drawn0.refl _ | apply Drawn0.step)⟩

/-- The variables of 'cycle' as its closure sees them. -/
structure St (w0 W : World) (bp bl bt be : Nat) (T : Value) (len : Int) (v : Value) (path : List Int) : Prop where
  below : Below w0.heap.size w0 W
  p : W.heap[bp]? = some (.cells #[v] 31 (0, 0))
  l : W.heap[bl]? = some (.cells #[.int .i64 len] 3 (0, 0))
  t : W.heap[bt]? = some (.cells #[T] 22 (0, 0))
  e : W.heap[be]? = some (.cells #[.func (.func 70) #[] #[.pointer (some ⟨bp, 0, none⟩), .pointer (some ⟨bl, 0, none⟩), .pointer (some ⟨bt, 0, none⟩), .pointer (some ⟨be, 0, none⟩)]] 25 (0, 0))
  r : Kd.R (Kd.int .i64) 3 W w0.heap.size (fun k => k ≠ bl) v path
  hp : w0.heap.size ≤ bp

section
variable {w0 W w1 : World} {bp bl bt be : Nat} {T v v' : Value} {len : Int} {path path' : List Int}
theorem St.drewN (h : St w0 W bp bl bt be T len v path) (m : Nat) : St w0 (W.drewN m) bp bl bt be T len v path :=
  ⟨pw_below_drewN h.below m, h.p, h.l, h.t, h.e, Kd.R_drewN h.r m, h.hp⟩
theorem St.ne (h : St w0 W bp bl bt be T len v path) : some bp ≠ v.ownBlock ∧ some bl ≠ v.ownBlock ∧ some bt ≠ v.ownBlock ∧ some be ≠ v.ownBlock :=
  ⟨Kd.R_ne h.r h.p (by decide), fun e => h.r.1 _ e.symm rfl, Kd.R_ne h.r h.t (by decide), Kd.R_ne h.r h.e (by decide)⟩
theorem blk_ne {W : World} {a b : Nat} {x y : Array Value} {s t : TypeId} (ha : W.heap[a]? = some (.cells x s (0, 0))) (hb : W.heap[b]? = some (.cells y t (0, 0))) (hst : s ≠ t) : a ≠ b := by
  rintro rfl
  rw [ha] at hb
  injection hb with hb
  injection hb with _ hb
  exact hst hb
/-- The row has been written or has moved. -/
theorem St.grown (h : St w0 W bp bl bt be T len v path) (hg : W.grownBy w1 v.ownBlock) (hb : Below w0.heap.size w0 w1) (hr : Kd.R (Kd.int .i64) 3 w1 w0.heap.size (fun k => k ≠ bl) v' path') :
    St w0 (w1.setCell ⟨bp, 0, none⟩ v') bp bl bt be T len v' path' := by
  have hn := h.ne
  have kp : w1.heap[bp]? = some (.cells #[v] 31 (0, 0)) := (hg.block _ (lt_of_block h.p) hn.1).trans h.p
  have kl : w1.heap[bl]? = some (.cells #[.int .i64 len] 3 (0, 0)) := (hg.block _ (lt_of_block h.l) hn.2.1).trans h.l
  have kt := (hg.block _ (lt_of_block h.t) hn.2.2.1).trans h.t
  have ke := (hg.block _ (lt_of_block h.e) hn.2.2.2).trans h.e
  refine ⟨hb.setCell h.hp _, one_setCell kp, ?_, ?_, ?_, ?_, h.hp⟩
  · rw [Below.heap_setCell _ _ _ _ (blk_ne kl kp (by decide))]; exact kl
  · rw [Below.heap_setCell _ _ _ _ (blk_ne kt kp (by decide))]; exact kt
  · rw [Below.heap_setCell _ _ _ _ (blk_ne ke kp (by decide))]; exact ke
  · exact Kd.R_set hr kp (by decide) 0 _
theorem St.cp (h : St w0 W bp bl bt be T len v path) : W.cell? ⟨bp, 0, none⟩ = some v := cell_of_one h.p
theorem St.fp (h : St w0 W bp bl bt be T len v path) : W.frozen? ⟨bp, 0, none⟩ = false := free_of_one h.p
theorem St.cl (h : St w0 W bp bl bt be T len v path) : W.cell? ⟨bl, 0, none⟩ = some (.int .i64 len) := cell_of_one h.l
theorem St.ct (h : St w0 W bp bl bt be T len v path) : W.cell? ⟨bt, 0, none⟩ = some T := cell_of_one h.t
theorem St.ce (h : St w0 W bp bl bt be T len v path) : W.cell? ⟨be, 0, none⟩ = some (.func (.func 70) #[] #[.pointer (some ⟨bp, 0, none⟩), .pointer (some ⟨bl, 0, none⟩), .pointer (some ⟨bt, 0, none⟩), .pointer (some ⟨be, 0, none⟩)]) := cell_of_one h.e
end

/-- The first cycle of a length that begins with a path, or nothing. Fuel: how many devices are still to come. -/
def firstOf (f : Int → List Int) : List Int → List Int
  | [] => []
  | d :: ds => match f d with
    | [] => firstOf f ds
    | x :: xs => x :: xs
/-- The numbers from a to n - 1. -/
def upTo (a : Int) (n : Nat) : List Int := (List.range (n - a.toNat)).map fun (i : Nat) => a + (i : Int)
theorem upTo_end (a : Int) (n : Nat) (h : (n : Int) ≤ a) : upTo a n = [] := by
  unfold upTo
  rw [show n - a.toNat = 0 from by omega]
  rfl
theorem upTo_cons (a : Int) (n : Nat) (h0 : 0 ≤ a) (h : a < n) : upTo a n = a :: upTo (a + 1) n := by
  unfold upTo
  rw [show n - a.toNat = (n - (a + 1).toNat) + 1 from by omega, List.range_succ_eq_map, List.map_cons, List.map_map]
  congr 1
  · simp
  · apply List.map_congr_left
    intro i _
    simp only [Function.comp]
    omega
def last (path : List Int) : Int := rd path ((path.length : Int) - 1)
def ext (t : List (List Int)) (len : Nat) : Nat → List Int → List Int
  | 0, path => if 0 < rd (rd_L1 t (last path)) (rd path 0) then path else []
  | f + 1, path => firstOf (fun d => if rd (rd_L1 t (last path)) d = 0 ∨ path.contains d = true then [] else ext t len f (path ++ [d])) (upTo (rd path 0 + 1) t.length)

end Go.Proofs.Ytdljbmgknhbceaa.A

namespace Go.Proofs.Ytdljbmgknhbceaa.A
open Go.RowKit Go.Proofs.YtdljbmgknhbceaaW.PrintWords Go.Proofs.YtdljbmgknhbceaaW.PrintLast Go.Proofs.YtdljbmgknhbceaaW.PrintMore Go.Proofs.Ytdljbmgknhbceaa.Q
set_option linter.unusedVariables false
set_option linter.unusedSimpArgs false

def rowOk (n h : Nat) (r : List Int) : Bool := decide (r.length = n) && (decide (rd r h = 0) && !badAny r)
def rowsOk (n : Nat) : List (List Int) → Nat → Bool
  | [], _ => true
  | r :: rs, h => rowOk n h r && rowsOk n rs (h + 1)
def validT (t : List (List Int)) : Bool := rowsOk t.length t 0 && decide (t.length ≤ 12)
theorem rowsOk_drop (n : Nat) (t : List (List Int)) (k : Nat) (hk : k < t.length) : rowsOk n (t.drop k) k = (rowOk n k (rd_L1 t k) && rowsOk n (t.drop (k + 1)) (k + 1)) := by
  rw [List.drop_eq_getElem_cons hk, rowsOk]
  simp [rd_L1, List.getD_eq_getElem?_getD, List.getElem?_eq_getElem hk]

set_option maxHeartbeats 400000 in
theorem valid_any (A : Option Addr) (c : Nat) (t : List (List Int)) (w : World) (hr : Kd.C (Kd.slice 3 (Kd.int .i64)) w A t.length t) :
    Calls Try.prog 18 #[.slice A t.length c] w fun e w' => e = .returned (.bool (validT t)) ∧ Drawn0 w w' := by
  have HR := Aside0.mk hr
  have hm : t.length ≤ 9223372036854775807 := hr.2.1
  clear hr
  go_enter Try.func18, Try.ntmps18
  go_wp2
  go_loopw [7] (fun i w' => ∃ k : Nat, k ≤ t.length ∧ i = .int .i64 k ∧ Aside0 (rowsOk t.length t 0 = rowsOk t.length (t.drop k) k) ∧ Drawn0 w w') (fun i _ => t.length - (intOf i).toNat)
  case atStart => exact ⟨0, by omega, rfl, ⟨rfl⟩, Drawn0.refl _⟩
  case round =>
    obtain ⟨k, hk, rfl, HB, ⟨m, rfl⟩⟩ := hrel
    by_cases hlt : k < t.length
    · obtain ⟨ad, A1, c1, e, hx, hl, hi⟩ := at_L1 HR.out k (by omega) (by omega)
      cases e
      rw [Int.toNat_natCast] at hx
      have hs := Aside0.mk (rowsOk_drop t.length t k hlt)
      have HI := Aside0.mk hi
      clear hl
      by_cases h1 : (rd_L1 t k).length = t.length
      · have h1b : (((rd_L1 t k).length : Int) == (t.length : Int)) = true := beq_iff_eq.2 (by omega)
        have h1c : ((rd_L1 t k).length == t.length) = true := beq_iff_eq.2 h1
        have h1d : (((rd_L1 t k).length : Int) != (t.length : Int)) = false := bne_eq_false_iff_eq.2 (by omega)
        have hlt2 : (k : Int) < ((rd_L1 t k).length : Int) := by omega
        obtain ⟨ad2, e, hx2⟩ := Kd.at_int hi k (by omega) (by omega)
        cases e
        rw [Int.toNat_natCast] at hx2
        have H1 := Aside0.mk h1
        clear h1 hi
        by_cases h2 : rd (rd_L1 t k) k = 0
        · have h2b : (rd (rd_L1 t k) k == 0) = true := beq_iff_eq.2 h2
          have h2d : (rd (rd_L1 t k) k != 0) = false := bne_eq_false_iff_eq.2 h2
          have H2 := Aside0.mk h2
          clear h2
          cases hb : badAny (rd_L1 t k) with
          | true =>
            have hb' := Aside0.mk hb
            clear hb
            have hf : Aside0 (rowsOk t.length t 0 = false) := ⟨by rw [HB.out, hs.out]; simp [rowOk, hb'.out]⟩
            go_wp2_with (go_at_call 43; refine (contains44 _ _ _ _ (Kd.C_drewN HI.out _)).mono ?_; rw [hb'.out]; rintro e w' ⟨rfl, ⟨m2, rfl⟩⟩)
            go_ret
            exact ⟨by rw [validT, hf.out]; rfl, by repeat (first | exact Drawn0.refl _ | apply Drawn0.step)⟩
          | false =>
            have hb' := Aside0.mk hb
            clear hb
            have hf : Aside0 (rowOk t.length k (rd_L1 t k) = true) := ⟨by simp [rowOk, hb'.out, H1.out, H2.out]⟩
            go_wp2_with (go_at_call 43; refine (contains44 _ _ _ _ (Kd.C_drewN HI.out _)).mono ?_; rw [hb'.out]; rintro e w' ⟨rfl, ⟨m2, rfl⟩⟩)
            go_roundw
            case rel => exact ⟨k + 1, by omega, by go_num, ⟨by rw [HB.out, hs.out, hf.out]; rfl⟩, by repeat (first | exact Drawn0.refl _ | apply Drawn0.step)⟩
            case measure => simp [intOf]; omega
        · have h2b : (rd (rd_L1 t k) k == 0) = false := beq_eq_false_iff_ne.2 h2
          have h2d : (rd (rd_L1 t k) k != 0) = true := bne_iff_ne.2 h2
          have H2 := Aside0.mk h2
          clear h2
          have hf : Aside0 (rowsOk t.length t 0 = false) := ⟨by rw [HB.out, hs.out]; simp [rowOk, H2.out]⟩
          go_wp2
          go_ret
          exact ⟨by rw [validT, hf.out]; rfl, by repeat (first | exact Drawn0.refl _ | apply Drawn0.step)⟩
      · have h1b : (((rd_L1 t k).length : Int) == (t.length : Int)) = false := beq_eq_false_iff_ne.2 (by omega)
        have h1c : ((rd_L1 t k).length == t.length) = false := beq_eq_false_iff_ne.2 h1
        have h1d : (((rd_L1 t k).length : Int) != (t.length : Int)) = true := bne_iff_ne.2 (by omega)
        have hf : Aside0 (rowsOk t.length t 0 = false) := ⟨by rw [HB.out, hs.out]; simp [rowOk, h1]⟩
        clear h1
        go_wp2
        go_ret
        exact ⟨by rw [validT, hf.out]; rfl, by repeat (first | exact Drawn0.refl _ | apply Drawn0.step)⟩
    · have hf : Aside0 (rowsOk t.length t 0 = true) := ⟨by rw [HB.out, List.drop_of_length_le (by omega)]; rfl⟩
      have hv : Aside0 (validT t = decide ((t.length : Int) ≤ 12)) := ⟨by rw [validT, hf.out, Bool.true_and]; congr 1; simp; omega⟩
      go_wp2
      go_ret
      exact ⟨by rw [hv.out]; rfl, by repeat (first | exact Drawn0.refl _ | apply Drawn0.step)⟩

end Go.Proofs.Ytdljbmgknhbceaa.A

namespace Go.Proofs.Ytdljbmgknhbceaa.A
open Go.RowKit Go.Proofs.YtdljbmgknhbceaaW.PrintWords Go.Proofs.YtdljbmgknhbceaaW.PrintLast Go.Proofs.YtdljbmgknhbceaaW.PrintMore Go.Proofs.Ytdljbmgknhbceaa.Q
set_option linter.unusedVariables false
set_option linter.unusedSimpArgs false

abbrev KT := Kd.slice 3 (Kd.int .i64)

/-- An inner row of a table of the call's own: read and stored into. -/
theorem tab_at {W : World} {base : Nat} {ok : Nat → Prop} {ad : Addr} {n cap : Nat} {t : List (List Int)} (h : Kd.S KT 31 W base ok (.slice (some ad) n cap) t) (i j : Int) (i0 : 0 ≤ i) (i1 : i < t.length) (j0 : 0 ≤ j) (j1 : j < (rd_L1 t i).length) :
    ∃ g cp, W.cell? (ad.add i.toNat) = some (.slice (some ⟨g, 0, none⟩) (rd_L1 t i).length cp) ∧ W.cell? ⟨g, j.toNat, none⟩ = some (.int .i64 (rd (rd_L1 t i) j)) ∧ W.frozen? ⟨g, j.toNat, none⟩ = false ∧ base ≤ g ∧ (ok g ∧ ∃ cells, W.heap[g]? = some (.cells cells 3 (0, 0))) ∧
      ∀ x, Kd.S KT 31 (W.setCell ⟨g, j.toNat, none⟩ (.int .i64 x)) base ok (.slice (some ad) n cap) (t.set i.toNat ((rd_L1 t i).set j.toNat x)) ∧ W.grownBy (W.setCell ⟨g, j.toNat, none⟩ (.int .i64 x)) (some g) := by
  obtain ⟨hn, _, _⟩ := Kd.S_reads' h
  obtain ⟨oki, c, hcl, hM, hcc, hok, hb⟩ := Kd.S_borrow h ([] : List Int) i i0 (by omega)
  obtain ⟨v, rfl, hR⟩ := hM
  have hR1 : Kd.R (Kd.int .i64) 3 W base oki v (rd_L1 t i) := hR
  obtain ⟨Av, cp, rfl⟩ := Kd.R_slice hR1
  obtain ⟨ad2, e, hx⟩ := Kd.at_int (Kd.R_reads' hR1).2.2 j j0 j1
  cases e
  obtain ⟨inner, ho⟩ := Kd.R_own hR1
  have ho' := ho
  rcases ho'.2 with ⟨h0, _⟩ | ⟨g, cap', cur, he, hbg, hh, _⟩
  · cases h0
  · injection he with he1 he2 he3
    injection he1 with he1
    subst he1
    refine ⟨g, cp, ?_, ?_, ?_, hbg, ⟨(hok _ (hR1.1 _ rfl)).1, cur, hh⟩, fun x => ?_⟩
    · have := hcc 0 _ rfl
      simpa [KT, Kd.slice] using this
    · rwa [add_plain] at hx
    · simp [World.frozen?, hh]
    · obtain ⟨h1, h2⟩ := Kd.R_putg hR1 j x
      refine ⟨hb h2 (fun k hk => ?_) ⟨_, rfl, h1⟩, h2⟩
      injection hk with hk
      subst hk
      exact hR1.1 _ rfl

/-- The same cells, by what is read. -/
theorem tab_len {W : World} {base : Nat} {ok : Nat → Prop} {v : Value} {t : List (List Int)} (h : Kd.S KT 31 W base ok v t) : ∃ A c, v = .slice A t.length c := Kd.S_slice h

def fitsT (t : List (List Int)) (q : List Int) : Bool := validT t && (decide (q.length = t.length) && !badAny q)

set_option maxHeartbeats 400000 in
theorem fits_any (A : Option Addr) (c : Nat) (t : List (List Int)) (A1 : Option Addr) (c1 : Nat) (q : List Int) (w : World) (hr : Kd.C KT w A t.length t) (hr1 : Kd.C (Kd.int .i64) w A1 q.length q) :
    Calls Try.prog 46 #[.slice A t.length c, .slice A1 q.length c1] w fun e w' => e = .returned (.bool (fitsT t q)) ∧ Drawn0 w w' := by
  have HR := Aside0.mk hr
  have HR1 := Aside0.mk hr1
  clear hr hr1
  cases hv : validT t with
  | false =>
    have hv' := Aside0.mk hv
    have hf : Aside0 (fitsT t q = false) := ⟨by rw [fitsT, hv]; rfl⟩
    clear hv
    go_enter Try.func46, Try.ntmps46
    go_wp2_with (go_at_call 18; refine (valid_any _ _ _ _ HR.out).mono ?_; rw [hv'.out]; rintro e w' ⟨rfl, ⟨m, rfl⟩⟩)
    go_ret
    exact ⟨by rw [hf.out]; rfl, by repeat (first | exact Drawn0.refl _ | apply Drawn0.step)⟩
  | true =>
    have hv' := Aside0.mk hv
    by_cases hl : q.length = t.length
    · have h1b : ((q.length : Int) == (t.length : Int)) = true := beq_iff_eq.2 (by omega)
      have h1c : (q.length == t.length) = true := beq_iff_eq.2 hl
      have hf : Aside0 (fitsT t q = !badAny q) := ⟨by rw [fitsT, hv]; simp [hl]⟩
      clear hv hl
      go_enter Try.func46, Try.ntmps46
      go_wp2_with (first | (go_at_call 18; refine (valid_any _ _ _ _ HR.out).mono ?_; rw [hv'.out]; rintro e w' ⟨rfl, ⟨m, rfl⟩⟩) | (go_at_call 43; refine (contains66 _ _ _ _ (Kd.C_drewN HR1.out _)).mono ?_; rintro e w' ⟨rfl, ⟨m2, rfl⟩⟩))
      go_ret
      exact ⟨by rw [hf.out]; rfl, by repeat (first | exact Drawn0.refl _ | apply Drawn0.step)⟩
    · have h1b : ((q.length : Int) == (t.length : Int)) = false := beq_eq_false_iff_ne.2 (by omega)
      have h1c : (q.length == t.length) = false := beq_eq_false_iff_ne.2 hl
      have hf : Aside0 (fitsT t q = false) := ⟨by rw [fitsT, hv]; simp [hl]⟩
      clear hv hl
      go_enter Try.func46, Try.ntmps46
      go_wp2_with (go_at_call 18; refine (valid_any _ _ _ _ HR.out).mono ?_; rw [hv'.out]; rintro e w' ⟨rfl, ⟨m, rfl⟩⟩)
      go_ret
      exact ⟨by rw [hf.out]; rfl, by repeat (first | exact Drawn0.refl _ | apply Drawn0.step)⟩

set_option maxHeartbeats 1000000 in
theorem copied_any (A : Option Addr) (c : Nat) (t : List (List Int)) (w : World) (hr : Kd.C KT w A t.length t) (hn : t.length < 5864062014805) (hl : ∀ r ∈ t, r.length < 17592186044416) :
    Calls Try.prog 40 #[.slice A t.length c] w fun e w' => ∃ v : Value, e = .returned v ∧ Kd.S KT 31 w' w.heap.size (fun _ => True) v t ∧ Below w.heap.size w w' := by
  have HR := Aside0.mk hr
  have HL := Aside0.mk hl
  clear hr hl
  go_enter Try.func40, Try.ntmps40
  go_wp2
  go_loopw [3, 8] (fun v i wr => ∃ k : Nat, k ≤ t.length ∧ i = .int .i64 k ∧ Aside0 (Kd.S KT 31 wr w.heap.size (fun _ => True) v (t.take k)) ∧ Aside0 (Below w.heap.size w wr)) (fun _ i _ => t.length - (intOf i).toNat)
  case atStart => exact ⟨0, by omega, rfl, ⟨Kd.S_nil _ _ _ _ _⟩, ⟨Below.refl _ _⟩⟩
  case round =>
    obtain ⟨k, hk, rfl, HO, HB⟩ := hrel
    by_cases hlt : k < t.length
    · obtain ⟨ad, A1, c1, e, hx, hl1, hi⟩ := at_L1 (Kd.C_below HR.out HB.out) k (by omega) (by omega)
      cases e
      rw [Int.toNat_natCast] at hx
      have hg : rd_L1 t k = t[k] := by simp [rd_L1, List.getD_eq_getElem?_getD, List.getElem?_eq_getElem hlt]
      have hrl : Aside0 ((rd_L1 t k).length < 17592186044416) := ⟨by rw [hg]; exact HL.out _ (List.getElem_mem hlt)⟩
      have hs : Aside0 (t.take (k + 1) = t.take k ++ [rd_L1 t k]) := ⟨by rw [List.take_succ_eq_append_getElem hlt, hg]⟩
      have hll : Aside0 ((t.take k).length < 5864062014804) := ⟨by rw [List.length_take]; omega⟩
      have HI := Aside0.mk hi
      obtain ⟨P, hP⟩ : ∃ P, P = t.take k := ⟨_, rfl⟩
      rw [← hP] at HO hs hll
      clear hP
      obtain ⟨A3, c3, rfl⟩ := Kd.S_slice HO.out
      obtain ⟨row, hrow⟩ : ∃ r, r = rd_L1 t k := ⟨_, rfl⟩
      rw [← hrow] at hx HI hrl hs
      clear hg hl1 hi hrow
      go_wp2_with (first
        | (go_at_call 62; refine (clone_any _ _ _ _ HI.out hrl.out).mono ?_; rintro e w1 ⟨v1, rfl, hR, hb⟩; have n0_ := Aside0.mk (Kd.S_elder' HO.out (Kd.R_base hR) hb); have n1_ := Aside0.mk (Kd.R_lower hR HB.out.size); have n2_ := Aside0.mk (below_step HB.out hb); clear HO; clear HB; have HO := n0_; have HO2 := n1_; have HB := n2_; clear n0_ n1_ n2_ hR hb; obtain ⟨Ao, co, eo⟩ := Kd.R_slice HO2.out; subst eo)
        | ((with_reducible refine gate_builtin (b := .append) (xs := #[.tmp 12, .tmp 15]) rfl ?_); at_builtin; refine Kd.S_append KT (w0 := w) w.heap.size rfl (.tmp 12) (.tmp 15) 22 31 (.slice none 0 0) 24 rfl Try.underlying22 info31 rfl (by decide) (by omega) (.slice A3 P.length c3) P row [.slice Ao row.length co] (fun _ => True) (fun k_ => some k_ = (.slice Ao row.length co : Value).ownBlock) rfl rfl ?aP (fun k_ hk_ => ((Kd.R_mono (ok' := fun k_ => ((fun _ => True)) k_ ∧ some k_ ≠ (.slice A3 P.length c3 : Value).ownBlock) (Kd.R_apart' (HO2.out) (Kd.S_typed HO.out) (by decide)) (fun k_ hk => ⟨trivial, hk.2⟩))).1 k_ hk_.symm) ?aF ?aO ?aB ?aS ?aL ?_; (case aP => exact Kd.M_row (Kd.R_mono (Kd.R_tight rfl (Kd.R_mono (ok' := fun k_ => ((fun _ => True)) k_ ∧ some k_ ≠ (.slice A3 P.length c3 : Value).ownBlock) (Kd.R_apart' (HO2.out) (Kd.S_typed HO.out) (by decide)) (fun k_ hk => ⟨trivial, hk.2⟩))) (fun _ h_ => h_))); (case aB => exact HB.out); (case aF => exact (fun _ _ => trivial)); (case aO => exact Kd.S_mono HO.out (fun k_ hk => ⟨trivial, fun e_ => hk.2 e_⟩)); (case aS => exact (below_size HB.out)); (case aL => have := hll.out; omega); intro v173 w11 ho hb hg hat; rw [← hs.out] at ho; have n0_ := Aside0.mk (hb); have n1_ := Aside0.mk (ho); clear HB; clear HO; clear HO2; have HB := n0_; have HO := n1_; clear n0_ n1_ ho hb hg hat))
      go_roundw
      case rel => exact ⟨k + 1, by omega, by go_num, HO, HB⟩
      case measure => simp [intOf]; omega
    · have ht : Aside0 (t.take k = t) := ⟨List.take_of_length_le (by omega)⟩
      go_wp2
      go_ret
      exact ⟨_, rfl, by have := HO.out; rwa [ht.out] at this, HB.out⟩

end Go.Proofs.Ytdljbmgknhbceaa.A

namespace Go.Proofs.Ytdljbmgknhbceaa.A
open Go.RowKit Go.Proofs.YtdljbmgknhbceaaW.PrintWords Go.Proofs.YtdljbmgknhbceaaW.PrintLast Go.Proofs.YtdljbmgknhbceaaW.PrintMore Go.Proofs.Ytdljbmgknhbceaa.Q
set_option linter.unusedVariables false
set_option linter.unusedSimpArgs false

/-- A row of numbers of the call's own: read and stored into. -/
theorem row_at {W : World} {base : Nat} {ok : Nat → Prop} {A : Option Addr} {n cap : Nat} {xs : List Int} (h : Kd.R (Kd.int .i64) 3 W base ok (.slice A n cap) xs) (j : Int) (j0 : 0 ≤ j) (j1 : j < xs.length) :
    ∃ g, A = some ⟨g, 0, none⟩ ∧ W.cell? ⟨g, j.toNat, none⟩ = some (.int .i64 (rd xs j)) ∧ W.frozen? ⟨g, j.toNat, none⟩ = false ∧ base ≤ g ∧
      ∀ x, Kd.R (Kd.int .i64) 3 (W.setCell ⟨g, j.toNat, none⟩ (.int .i64 x)) base ok (.slice A n cap) (xs.set j.toNat x) ∧ W.grownBy (W.setCell ⟨g, j.toNat, none⟩ (.int .i64 x)) (some g) := by
  obtain ⟨ad2, e, hx⟩ := Kd.at_int (Kd.R_reads' h).2.2 j j0 j1
  cases e
  obtain ⟨inner, ho⟩ := Kd.R_own h
  rcases ho.2 with ⟨h0, _⟩ | ⟨g, cap', cur, he, hbg, hh, _⟩
  · cases h0
  · injection he with he1 he2 he3
    injection he1 with he1
    subst he1
    refine ⟨g, rfl, ?_, ?_, hbg, fun x => Kd.R_putg h j x⟩
    · rwa [add_plain] at hx
    · simp [World.frozen?, hh]

def heldT (t : List (List Int)) : List Int := t.map fun r => wsum r 0
def part (f : Nat → Int) (old : List Int) (k : Nat) : List Int := (List.range k).map f ++ old.drop k
theorem part_zero (f : Nat → Int) (old : List Int) : part f old 0 = old := by simp [part]
theorem part_step (f : Nat → Int) (old : List Int) (k : Nat) (hk : k < old.length) : (part f old k).set k (f k) = part f old (k + 1) := by
  unfold part
  rw [List.set_append_right _ _ (by simp), List.length_map, List.length_range, Nat.sub_self, List.drop_eq_getElem_cons hk, List.set_cons_zero, List.range_succ, List.map_append, List.append_assoc]
  rfl
theorem part_length (f : Nat → Int) (old : List Int) (k : Nat) (hk : k ≤ old.length) : (part f old k).length = old.length := by simp [part]; omega
theorem part_full (f : Nat → Int) (old : List Int) : part f old old.length = (List.range old.length).map f := by simp [part]
theorem part_at (f : Nat → Int) (old : List Int) (k : Nat) (hk : k < old.length) : rd (part f old k) k = rd old k := by
  unfold part rd
  simp [List.getD_eq_getElem?_getD, List.getElem?_append_right]
theorem range_held (t : List (List Int)) : (List.range t.length).map (fun (i : Nat) => wsum (rd_L1 t (i : Int)) 0) = heldT t := by
  apply List.ext_getElem
  · simp [heldT]
  · intro i h1 h2
    have hi : i < t.length := by simpa using h1
    simp [heldT, rd_L1, List.getD_eq_getElem?_getD, List.getElem?_eq_getElem hi]

set_option maxHeartbeats 1000000 in
theorem held_any (A : Option Addr) (c : Nat) (t : List (List Int)) (w : World) (hr : Kd.C KT w A t.length t) (hn : t.length < 35184372088832) :
    Calls Try.prog 41 #[.slice A t.length c] w fun e w' => ∃ v : Value, e = .returned v ∧ Kd.R (Kd.int .i64) 3 w' w.heap.size (fun _ => True) v (heldT t) ∧ Below w.heap.size w w' := by
  have HR := Aside0.mk hr
  clear hr
  obtain ⟨Z, hZ⟩ : ∃ Z : List Int, Z = List.replicate t.length 0 := ⟨_, rfl⟩
  have hZl : Aside0 (Z.length = t.length) := ⟨by rw [hZ]; simp⟩
  have NZ := Aside0.mk hZ
  clear hZ
  have h0 : (0 : Int) ≤ (t.length : Int) := by omega
  have HL := Aside0.mk (show ((t.length : Int)).toNat * 8 ≤ 281474976710656 from by omega)
  go_enter Try.func41, Try.ntmps41
  go_wp2_with (first | ((with_reducible refine gate_dst (N := 8) rfl ?_); refine Kd.R_make (Kd.int .i64) _ 3 rfl (N := 8) rfl 31 _ _ rfl (t.length : Int) rfl rfl Try.underlying31 (.int .i64 0) 8 info3 rfl (by decide) (by omega) 0 (ok := fun _ => True) (okp := fun _ => True) rfl (fun _ hk => hk) trivial h0 HL.out (Below.refl _ _) (Nat.le_refl _) ?_; intro v163 w4 ho5 hb hg_ hnew_; clear hg_ hnew_; rw [Int.toNat_natCast, ← NZ.out] at ho5; have HO := Aside0.mk ho5; have HB := Aside0.mk hb; clear hb ho5))
  go_loopw [11] (fun i wr => ∃ k : Nat, k ≤ t.length ∧ i = .int .i64 k ∧ Aside0 (Kd.R (Kd.int .i64) 3 wr w.heap.size (fun _ => True) v163 (part (fun (i : Nat) => wsum (rd_L1 t (i : Int)) 0) Z k)) ∧ Aside0 (Below w.heap.size w wr)) (fun i _ => t.length - (intOf i).toNat)
  case atStart => exact ⟨0, by omega, rfl, ⟨by rw [part_zero]; exact HO.out⟩, HB⟩
  case round =>
    clear HO HB
    obtain ⟨k, hk, rfl, HO, HB⟩ := hrel
    by_cases hlt : k < t.length
    · obtain ⟨ad, A1, c1, e, hx, hl1, hi⟩ := at_L1 (Kd.C_below HR.out HB.out) k (by omega) (by omega)
      cases e
      rw [Int.toNat_natCast] at hx
      have HI := Aside0.mk hi
      obtain ⟨P, hP⟩ : ∃ P, P = part (fun (i : Nat) => wsum (rd_L1 t (i : Int)) 0) Z k := ⟨_, rfl⟩
      have hPl : Aside0 (P.length = t.length) := ⟨by rw [hP, part_length _ _ _ (by rw [hZl.out]; omega), hZl.out]⟩
      have hst : Aside0 (P.set k (wsum (rd_L1 t (k : Int)) 0) = part (fun (i : Nat) => wsum (rd_L1 t (i : Int)) 0) Z (k + 1)) := ⟨by rw [hP]; exact part_step (fun (i : Nat) => wsum (rd_L1 t (i : Int)) 0) Z k (by rw [hZl.out]; exact hlt)⟩
      rw [← hP] at HO
      clear hP hl1 hi
      obtain ⟨A3, c3, rfl⟩ := Kd.R_slice HO.out
      obtain ⟨g, e, hc1, hf1, hbg, hput⟩ := row_at HO.out k (by omega) (by rw [hPl.out]; omega)
      cases e
      rw [Int.toNat_natCast] at hc1 hf1
      have HP := Aside0.mk hput
      have hkl : (k : Int) < (P.length : Int) := by rw [hPl.out]; omega
      clear hput
      go_wp2_with (first | (go_at_call 52; refine (total_any _ _ _ _ HI.out).mono ?_; rintro e w' ⟨rfl, rfl⟩))
      go_roundw
      case rel => exact ⟨k + 1, by omega, by go_num, ⟨by rw [← hst.out]; exact (HP.out _).1⟩, ⟨HB.out.setCell hbg _⟩⟩
      case measure => simp [intOf]; omega
    · have hf : Aside0 (part (fun (i : Nat) => wsum (rd_L1 t (i : Int)) 0) Z k = heldT t) := ⟨by
        obtain rfl : k = Z.length := by rw [hZl.out]; omega
        rw [part_full, hZl.out, range_held]⟩
      go_wp2
      go_ret
      exact ⟨_, rfl, by have := HO.out; rwa [hf.out] at this, HB.out⟩

def heldOut (t : List (List Int)) : List Int × Int := if validT t = true then (heldT t, 0) else ([], 1)
theorem Held_any (A : Option Addr) (c : Nat) (t : List (List Int)) (w : World) (hr : Kd.C KT w A t.length t) :
    Calls Try.prog 21 #[.slice A t.length c] w fun e w' => ∃ v : Value, e = .returned (.tuple #[v, .int .i64 (heldOut t).2]) ∧ Kd.R (Kd.int .i64) 3 w' w.heap.size (fun _ => True) v (heldOut t).1 ∧ Below w.heap.size w w' := by
  have HR := Aside0.mk hr
  clear hr
  cases hv : validT t with
  | false =>
    have hv' := Aside0.mk hv
    have hf : Aside0 (heldOut t = ([], 1)) := ⟨by rw [heldOut, hv]; rfl⟩
    clear hv
    go_enter Try.func21, Try.ntmps21
    go_wp2_with (go_at_call 18; refine (valid_any _ _ _ _ HR.out).mono ?_; rw [hv'.out]; rintro e w' ⟨rfl, ⟨m, rfl⟩⟩)
    go_ret2
    exact ⟨_, by rw [hf.out]; rfl, by rw [hf.out]; exact Kd.R_nil _ _ _ _ _, pw_below_drewN (Below.refl _ _) _⟩
  | true =>
    have hv' := Aside0.mk hv
    have hf : Aside0 (heldOut t = (heldT t, 0)) := ⟨by rw [heldOut, hv]; rfl⟩
    have hn : t.length < 35184372088832 := by simp [validT] at hv; omega
    clear hv
    go_enter Try.func21, Try.ntmps21
    go_wp2_with (first | (go_at_call 18; refine (valid_any _ _ _ _ HR.out).mono ?_; rw [hv'.out]; rintro e w' ⟨rfl, ⟨m, rfl⟩⟩) | (go_at_call 41; refine (held_any _ _ _ _ (Kd.C_drewN HR.out _) hn).mono ?_; rintro e w1 ⟨v1, rfl, hR, hb⟩; have HO := Aside0.mk hR; have HB := Aside0.mk hb; clear hR hb))
    go_ret2
    exact ⟨_, by rw [hf.out]; rfl, by rw [hf.out]; exact HO.out, (pw_below_drewN (Below.refl _ _) _).trans HB.out⟩

def balT (t : List (List Int)) : List Int := (List.range t.length).map fun (d : Nat) => wrap64 (wsum (column t d) 0 - wsum (rd_L1 t (d : Int)) 0)
def balOut (t : List (List Int)) : List Int × Int := if validT t = true then (balT t, 0) else ([], 1)
theorem rd_held (t : List (List Int)) (k : Nat) (hk : k < t.length) : rd (heldT t) k = wsum (rd_L1 t (k : Int)) 0 := by
  simp [rd, heldT, rd_L1, List.getD_eq_getElem?_getD, List.getElem?_eq_getElem hk]
theorem valid_sq {t : List (List Int)} (h : validT t = true) : t.length ≤ 12 ∧ ∀ r ∈ t, r.length = t.length ∧ badAny r = false := by
  simp only [validT, Bool.and_eq_true, decide_eq_true_eq] at h
  refine ⟨h.2, ?_⟩
  have : ∀ (l : List (List Int)) (n k : Nat), rowsOk n l k = true → ∀ r ∈ l, r.length = n ∧ badAny r = false := by
    intro l
    induction l with
    | nil => intro n k _ r hr; cases hr
    | cons x xs ih =>
      intro n k hx r hr
      simp only [rowsOk, rowOk, Bool.and_eq_true, decide_eq_true_eq, Bool.not_eq_true'] at hx
      rcases List.mem_cons.1 hr with rfl | hr
      · exact ⟨hx.1.1, hx.1.2.2⟩
      · exact ih n (k + 1) hx.2 r hr
  exact this t t.length 0 h.1

set_option maxHeartbeats 1000000 in
theorem Balance_any (A : Option Addr) (c : Nat) (t : List (List Int)) (w : World) (hr : Kd.C KT w A t.length t) :
    Calls Try.prog 16 #[.slice A t.length c] w fun e w' => ∃ v : Value, e = .returned (.tuple #[v, .int .i64 (balOut t).2]) ∧ Kd.R (Kd.int .i64) 3 w' w.heap.size (fun _ => True) v (balOut t).1 ∧ Below w.heap.size w w' := by
  have HR := Aside0.mk hr
  clear hr
  cases hv : validT t with
  | false =>
    have hv' := Aside0.mk hv
    have hf : Aside0 (balOut t = ([], 1)) := ⟨by rw [balOut, hv]; rfl⟩
    clear hv
    go_enter Try.func16, Try.ntmps16
    go_wp2_with (go_at_call 18; refine (valid_any _ _ _ _ HR.out).mono ?_; rw [hv'.out]; rintro e w' ⟨rfl, ⟨m, rfl⟩⟩)
    go_ret2
    exact ⟨_, by rw [hf.out]; rfl, by rw [hf.out]; exact Kd.R_nil _ _ _ _ _, pw_below_drewN (Below.refl _ _) _⟩
  | true =>
    have hv' := Aside0.mk hv
    have hf : Aside0 (balOut t = (balT t, 0)) := ⟨by rw [balOut, hv]; rfl⟩
    have hq := (valid_sq hv).2
    have hn12 := (valid_sq hv).1
    have HQ := Aside0.mk hq
    obtain ⟨Z, hZ⟩ : ∃ Z, Z = heldT t := ⟨_, rfl⟩
    have NZ := Aside0.mk hZ
    have hZl : Aside0 (Z.length = t.length) := ⟨by rw [hZ]; simp [heldT]⟩
    have hn : t.length < 35184372088832 := by omega
    clear hv hq hZ
    go_enter Try.func16, Try.ntmps16
    go_wp2_with (first | (go_at_call 18; refine (valid_any _ _ _ _ HR.out).mono ?_; rw [hv'.out]; rintro e w' ⟨rfl, ⟨m, rfl⟩⟩) | (go_at_call 41; refine (held_any _ _ _ _ (Kd.C_drewN HR.out _) hn).mono ?_; rintro e w1 ⟨v1, rfl, hR, hb⟩; rw [← NZ.out] at hR; obtain ⟨A2, c2, e2⟩ : ∃ A c, v1 = .slice A t.length c := (by obtain ⟨A, c, e⟩ := Kd.R_slice hR; exact ⟨A, c, by rw [e, hZl.out]⟩); subst e2; have HO := Aside0.mk hR; have HB := Aside0.mk ((pw_below_drewN (Below.refl _ _) _).trans hb); clear hR hb))
    go_loopw [14] (fun i wr => ∃ k : Nat, k ≤ t.length ∧ i = .int .i64 k ∧ Aside0 (Kd.R (Kd.int .i64) 3 wr w.heap.size (fun _ => True) (.slice A2 t.length c2) (part (fun (d : Nat) => wrap64 (wsum (column t d) 0 - wsum (rd_L1 t (d : Int)) 0)) Z k)) ∧ Aside0 (Below w.heap.size w wr)) (fun i _ => t.length - (intOf i).toNat)
    case atStart => exact ⟨0, by omega, rfl, ⟨by rw [part_zero]; exact HO.out⟩, HB⟩
    case round =>
      clear HO HB
      obtain ⟨k, hk, rfl, HO, HB⟩ := hrel
      by_cases hlt : k < t.length
      · obtain ⟨P, hP⟩ : ∃ P, P = part (fun (d : Nat) => wrap64 (wsum (column t d) 0 - wsum (rd_L1 t (d : Int)) 0)) Z k := ⟨_, rfl⟩
        have hPl : Aside0 (P.length = t.length) := ⟨by rw [hP, part_length _ _ _ (by rw [hZl.out]; omega), hZl.out]⟩
        have hst : Aside0 (P.set k (wrap64 (wsum (column t k) 0 - wsum (rd_L1 t (k : Int)) 0)) = part (fun (d : Nat) => wrap64 (wsum (column t d) 0 - wsum (rd_L1 t (d : Int)) 0)) Z (k + 1)) := ⟨by rw [hP]; exact part_step (fun (d : Nat) => wrap64 (wsum (column t d) 0 - wsum (rd_L1 t (d : Int)) 0)) Z k (by rw [hZl.out]; exact hlt)⟩
        have hrdk : rd P k = wsum (rd_L1 t (k : Int)) 0 := by rw [hP, part_at _ _ _ (by rw [hZl.out]; exact hlt), NZ.out, rd_held _ _ hlt]
        rw [← hP] at HO
        clear hP
        obtain ⟨g, e, hc1, hf1, hbg, hput⟩ := row_at HO.out k (by omega) (by rw [hPl.out]; omega)
        cases e
        rw [Int.toNat_natCast] at hc1 hf1
        rw [hrdk] at hc1
        have HP := Aside0.mk hput
        clear hput hrdk
        go_wp2_with (first | (go_at_call 42; refine (stored_any _ _ _ _ _ (Kd.C_below HR.out HB.out) (by omega) (fun r hr => by rw [(HQ.out r hr).1]; omega)).mono ?_; rintro e w1 ⟨rfl, hb⟩; obtain ⟨g2, e, hc2, hf2, hbg2, hput2⟩ := row_at (Kd.R_below HO.out hb) k (by omega) (by rw [hPl.out]; omega); cases e; rw [Int.toNat_natCast] at hc2 hf2; have HP2 := Aside0.mk hput2; have HB2 := Aside0.mk (below_step HB.out hb); clear hput2 hb))
        go_roundw
        case rel => exact ⟨k + 1, by omega, by go_num, ⟨by rw [← hst.out]; exact (HP2.out _).1⟩, ⟨HB2.out.setCell hbg _⟩⟩
        case measure => simp [intOf]; omega
      · have hf2 : Aside0 (part (fun (d : Nat) => wrap64 (wsum (column t d) 0 - wsum (rd_L1 t (d : Int)) 0)) Z k = balT t) := ⟨by
          obtain rfl : k = Z.length := by rw [hZl.out]; omega
          rw [part_full, hZl.out]; rfl⟩
        go_wp2
        go_ret2
        exact ⟨_, by rw [hf.out]; rfl, by rw [hf.out]; have := HO.out; rwa [hf2.out] at this, HB.out⟩

end Go.Proofs.Ytdljbmgknhbceaa.A

namespace Go.Proofs.Ytdljbmgknhbceaa.A
open Go.RowKit Go.Proofs.YtdljbmgknhbceaaW.PrintWords Go.Proofs.YtdljbmgknhbceaaW.PrintLast Go.Proofs.YtdljbmgknhbceaaW.PrintMore Go.Proofs.Ytdljbmgknhbceaa.Q
attribute [local go_sem] max2_int min2_int max_two min_two max_three min_three max_four min_four
set_option linter.unusedVariables false
set_option linter.unusedSimpArgs false

theorem ret2_int {x y : Int} (h : x = y) : Ending.returned (.tuple #[.int .i64 x, .int .i64 0]) = Ending.returned (.tuple #[.int .i64 y, .int .i64 0]) := by rw [h]
def ins (n : Nat) (d : Int) : Bool := decide (0 ≤ d) && decide (d < (n : Int))
theorem inside51 (d : Int) (b : Nat) (A : Option Addr) (n c : Nat) (w : World) (hb : w.cell? ⟨b, 0, none⟩ = some (.slice A n c)) :
    Calls Try.prog 51 #[.int .i64 d, .pointer (some ⟨b, 0, none⟩)] w fun e w' => e = .returned (.bool (ins n d)) ∧ w = w' := by
  by_cases h0 : 0 ≤ d
  · have h0b : decide (0 ≤ d) = true := by simpa using h0
    have hf : Aside0 (ins n d = decide (d < (n : Int))) := ⟨by simp [ins, h0]⟩
    go_enter Try.func51, Try.ntmps51
    go_wp2
    go_ret
    exact ⟨by rw [hf.out]; rfl, rfl⟩
  · have h0b : decide (0 ≤ d) = false := by simpa using h0
    have hf : Aside0 (ins n d = false) := ⟨by simp [ins, h0]⟩
    go_enter Try.func51, Try.ntmps51
    go_wp2
    go_ret
    exact ⟨by rw [hf.out]; rfl, rfl⟩

def allowedOk (t : List (List Int)) (q : List Int) (a h o : Int) : Bool := fitsT t q && (okN a && (ins t.length h && (ins t.length o && !(h == o))))
def allowedOut (t : List (List Int)) (q : List Int) (a h o : Int) : Int × Int :=
  if allowedOk t q a h o = true then (max 0 (min (wrap64 (rd q h - wsum (rd_L1 t h) 0)) (wrap64 (a - rd (balT t) o))), 0) else (0, 1)

theorem rowlen {t : List (List Int)} (h : validT t = true) (i : Int) (i0 : 0 ≤ i) (i1 : i < t.length) : (rd_L1 t i).length = t.length := by
  have hm : rd_L1 t i ∈ t := by
    unfold rd_L1
    rw [List.getD_eq_getElem?_getD, List.getElem?_eq_getElem (by omega)]
    exact List.getElem_mem _
  exact ((valid_sq h).2 _ hm).1

set_option maxHeartbeats 2000000 in
theorem Allowed_any (A : Option Addr) (c : Nat) (t : List (List Int)) (A1 : Option Addr) (c1 : Nat) (q : List Int) (a h o : Int) (w : World) (hr : Kd.C KT w A t.length t) (hr1 : Kd.C (Kd.int .i64) w A1 q.length q) :
    Calls Try.prog 22 #[.slice A t.length c, .slice A1 q.length c1, .int .i64 a, .int .i64 h, .int .i64 o] w fun e w' => e = .returned (.tuple #[.int .i64 (allowedOut t q a h o).1, .int .i64 (allowedOut t q a h o).2]) ∧ Below w.heap.size w w' := by
  have hb0 : Below w.heap.size w (w.alloc (.cells #[.slice A t.length c] 22)) := (Below.refl _ _).alloc (Nat.le_refl _) _
  have HR := Aside0.mk (Kd.C_below hr hb0)
  have HR1 := Aside0.mk (Kd.C_below hr1 hb0)
  have HB0 := Aside0.mk hb0
  clear hr hr1 hb0
  cases hv : fitsT t q with
  | false =>
    have hv' := Aside0.mk hv
    have hf : Aside0 (allowedOut t q a h o = (0, 1)) := ⟨by simp [allowedOut, allowedOk, hv]⟩
    clear hv
    go_enter Try.func22, Try.ntmps22
    go_wp2_with (go_at_call 46; refine (fits_any _ _ _ _ _ _ _ HR.out HR1.out).mono ?_; rw [hv'.out]; rintro e w' ⟨rfl, ⟨m, rfl⟩⟩)
    go_ret2
    exact ⟨by rw [hf.out]; rfl, pw_below_drewN HB0.out _⟩
  | true =>
    have hv' := Aside0.mk hv
    cases ha : okN a with
    | false =>
      have ha' := Aside0.mk ha
      have hf : Aside0 (allowedOut t q a h o = (0, 1)) := ⟨by simp [allowedOut, allowedOk, hv, ha]⟩
      clear hv ha
      go_enter Try.func22, Try.ntmps22
      go_wp2_with (first | (go_at_call 46; refine (fits_any _ _ _ _ _ _ _ HR.out HR1.out).mono ?_; rw [hv'.out]; rintro e w' ⟨rfl, ⟨m, rfl⟩⟩) | (go_at_call 45; refine (within_any _ _).mono ?_; rw [ha'.out]; rintro e w' ⟨rfl, ⟨m2, rfl⟩⟩))
      go_ret2
      exact ⟨by rw [hf.out]; rfl, pw_below_drewN HB0.out _⟩
    | true =>
      have ha' := Aside0.mk ha
      cases hh : ins t.length h with
      | false =>
        have hh' := Aside0.mk hh
        have hf : Aside0 (allowedOut t q a h o = (0, 1)) := ⟨by simp [allowedOut, allowedOk, hv, ha, hh]⟩
        clear hv ha hh
        go_enter Try.func22, Try.ntmps22
        go_wp2_with (first | (go_at_call 46; refine (fits_any _ _ _ _ _ _ _ HR.out HR1.out).mono ?_; rw [hv'.out]; rintro e w' ⟨rfl, ⟨m, rfl⟩⟩) | (go_at_call 45; refine (within_any _ _).mono ?_; rw [ha'.out]; rintro e w' ⟨rfl, ⟨m2, rfl⟩⟩) | (go_at_call 51; refine (inside51 _ _ A t.length c _ (by simp)).mono ?_; rw [hh'.out]; rintro e w' ⟨rfl, rfl⟩))
        go_ret2
        exact ⟨by rw [hf.out]; rfl, pw_below_drewN HB0.out _⟩
      | true =>
        have hh' := Aside0.mk hh
        cases ho : ins t.length o with
        | false =>
          have ho' := Aside0.mk ho
          have hf : Aside0 (allowedOut t q a h o = (0, 1)) := ⟨by simp [allowedOut, allowedOk, hv, ha, hh, ho]⟩
          have hd : Aside0 ((h == o) = false) := ⟨by
            rw [beq_eq_false_iff_ne]; rintro rfl; rw [hh] at ho; cases ho⟩
          clear hv ha hh ho
          go_enter Try.func22, Try.ntmps22
          go_wp2_with (first | (go_at_call 46; refine (fits_any _ _ _ _ _ _ _ HR.out HR1.out).mono ?_; rw [hv'.out]; rintro e w' ⟨rfl, ⟨m, rfl⟩⟩) | (go_at_call 45; refine (within_any _ _).mono ?_; rw [ha'.out]; rintro e w' ⟨rfl, ⟨m2, rfl⟩⟩) | (go_at_call_of 51 (Value.int IntKind.i64 h); refine (inside51 h _ A t.length c _ (by simp)).mono ?_; rw [hh'.out]; rintro e w' ⟨rfl, rfl⟩) | (go_at_call_of 51 (Value.int IntKind.i64 o); refine (inside51 o _ A t.length c _ (by simp)).mono ?_; rw [ho'.out]; rintro e w' ⟨rfl, rfl⟩))
          go_ret2
          exact ⟨by rw [hf.out]; rfl, pw_below_drewN HB0.out _⟩
        | true =>
          have ho' := Aside0.mk ho
          by_cases hd : h = o
          · have hf : Aside0 (allowedOut t q a h o = (0, 1)) := ⟨by simp [allowedOut, allowedOk, hd]⟩
            subst hd
            clear hv ha hh ho
            go_enter Try.func22, Try.ntmps22
            go_wp2_with (first | (go_at_call 46; refine (fits_any _ _ _ _ _ _ _ HR.out HR1.out).mono ?_; rw [hv'.out]; rintro e w' ⟨rfl, ⟨m, rfl⟩⟩) | (go_at_call 45; refine (within_any _ _).mono ?_; rw [ha'.out]; rintro e w' ⟨rfl, ⟨m2, rfl⟩⟩) | (go_at_call 51; refine (inside51 _ _ A t.length c _ (by simp)).mono ?_; rw [hh'.out]; rintro e w' ⟨rfl, rfl⟩))
            go_ret2
            exact ⟨by rw [hf.out]; rfl, pw_below_drewN HB0.out _⟩
          · have hdb : (h == o) = false := beq_eq_false_iff_ne.2 hd
            have hf : Aside0 (allowedOut t q a h o = (max 0 (min (wrap64 (rd q h - wsum (rd_L1 t h) 0)) (wrap64 (a - rd (balT t) o))), 0)) := ⟨by simp [allowedOut, allowedOk, hv, ha, hh, ho, hd]⟩
            have hval : validT t = true := by simp [fitsT] at hv; exact hv.1
            have hql : q.length = t.length := by simp [fitsT] at hv; exact hv.2.1
            have hbo : Aside0 (balOut t = (balT t, 0)) := ⟨by rw [balOut, hval]; rfl⟩
            have hbl : Aside0 ((balT t).length = t.length) := ⟨by simp [balT]⟩
            have hh2 : 0 ≤ h ∧ h < (t.length : Int) := by simpa [ins] using hh
            have ho2 : 0 ≤ o ∧ o < (t.length : Int) := by simpa [ins] using ho
            obtain ⟨hh0, hh1⟩ := hh2
            obtain ⟨oo0, oo1⟩ := ho2
            have hq1 : h < (q.length : Int) := by omega
            obtain ⟨adq, e, hxq⟩ := Kd.at_int HR1.out h hh0 hq1
            cases e
            obtain ⟨adt, A2, c2, e, hxt, hl2, hi2⟩ := at_L1 HR.out h hh0 hh1
            cases e
            have HI := Aside0.mk hi2
            obtain ⟨Bl, hBl⟩ : ∃ B, B = balT t := ⟨_, rfl⟩
            have NB := Aside0.mk hBl
            have hbl2 : Bl.length = t.length := by rw [hBl]; exact hbl.out
            have hob : o < (Bl.length : Int) := by omega
            have HBL := Aside0.mk hbl2
            clear hv ha hh ho hd hval hql hl2 hi2 hBl hbl2
            go_enter Try.func22, Try.ntmps22
            go_wp2_with (first | (go_at_call 46; refine (fits_any _ _ _ _ _ _ _ HR.out HR1.out).mono ?_; rw [hv'.out]; rintro e w' ⟨rfl, ⟨m, rfl⟩⟩) | (go_at_call 45; refine (within_any _ _).mono ?_; rw [ha'.out]; rintro e w' ⟨rfl, ⟨m2, rfl⟩⟩) | (go_at_call_of 51 (Value.int IntKind.i64 h); refine (inside51 h _ (some adt) t.length c _ (by simp)).mono ?_; rw [hh'.out]; rintro e w' ⟨rfl, rfl⟩) | (go_at_call_of 51 (Value.int IntKind.i64 o); refine (inside51 o _ (some adt) t.length c _ (by simp)).mono ?_; rw [ho'.out]; rintro e w' ⟨rfl, rfl⟩) | (go_at_call 16; refine (Balance_any _ _ _ _ (Kd.C_drewN HR.out _)).mono ?_; rw [hbo.out]; rintro e w1 ⟨v1, rfl, hR, hb⟩; replace hR : Kd.R (Kd.int .i64) 3 w1 _ (fun _ => True) v1 (balT t) := hR; rw [← NB.out] at hR; obtain ⟨A5, c5, e5⟩ := Kd.R_slice hR; subst e5; have hrd := (Kd.R_reads' hR).2.2; obtain ⟨ad5, e, hx5⟩ := Kd.at_int hrd o oo0 hob; cases e; obtain ⟨ad6, e, hx6⟩ := Kd.at_int (Kd.C_below (Kd.C_drewN HR1.out _) hb) h hh0 hq1; cases e; obtain ⟨ad7, A7, c7, e, hx7, _, hi7⟩ := at_L1 (Kd.C_below (Kd.C_drewN HR.out _) hb) h hh0 hh1; cases e; have HI7 := Aside0.mk hi7; have hbx : w1.cell? ⟨w.heap.size, 0, none⟩ = some (.slice (some adt) t.length c) := (hb.cell (p := ⟨w.heap.size, 0, none⟩) (by simp)).trans (by simp); have HB1 := Aside0.mk ((pw_below_drewN HB0.out _).trans (hb.mono (by simp))); clear hR hb hrd hi7))
            go_quiet ((go_at_call 52; exact Calls.quiet_of_same ((total_any _ _ _ _ (Kd.C_drewN HI7.out _)).mono (fun _ _ hh => ⟨hh.1, hh.2.symm⟩))))
            go_wp2
            all_goals
              go_ret2
              refine ⟨?_, pw_below_drewN HB1.out _⟩
              rw [hf.out, ← NB.out]
              exact ret2_int (by omega)

end Go.Proofs.Ytdljbmgknhbceaa.A
