import Derived.Test.YtdljbmgknhbceaaA0
namespace Go.Proofs.Ytdljbmgknhbceaa.A
open Go.RowKit Go.Proofs.YtdljbmgknhbceaaW.PrintWords Go.Proofs.YtdljbmgknhbceaaW.PrintLast Go.Proofs.YtdljbmgknhbceaaW.PrintMore Go.Proofs.Ytdljbmgknhbceaa.Q
set_option linter.unusedVariables false
set_option linter.unusedSimpArgs false

theorem total_any (A : Option Addr) (c : Nat) (l : List Int) (w : World) (hr : Kd.C (Kd.int .i64) w A l.length l) :
    Calls Try.prog 52 #[.slice A l.length c] w fun e w' => e = .returned (.int .i64 (wsum l 0)) ∧ w = w' := by
  have HR := Aside0.mk hr
  clear hr
  go_enter Try.func52, Try.ntmps52
  go_wp2_with (go_at_call 68; refine (sum_total _ _ _ _ HR.out).mono ?_; rintro e w' ⟨rfl, rfl⟩)
  go_ret
  exact ⟨rfl, rfl⟩

theorem cell64 (A : Option Addr) (c : Nat) (l : List Int) (b : Nat) (o : Int) (w : World) (hr : Kd.C (Kd.int .i64) w A l.length l) (hb : w.cell? ⟨b, 0, none⟩ = some (.int .i64 o)) (h0 : 0 ≤ o) (h1 : o < l.length) :
    Calls Try.prog 64 #[.slice A l.length c, .pointer (some ⟨b, 0, none⟩)] w fun e w' => e = .returned (.int .i64 (rd l o)) ∧ w = w' := by
  obtain ⟨ad, e, hx⟩ := Kd.at_int hr o h0 h1
  cases e
  clear hr
  go_enter Try.func64, Try.ntmps64
  go_wp2
  go_ret
  exact ⟨rfl, rfl⟩

def column (t : List (List Int)) (o : Int) : List Int := t.map fun r => rd r o

set_option maxHeartbeats 400000 in
theorem sum_stored (A : Option Addr) (c : Nat) (t : List (List Int)) (b : Nat) (o : Int) (w : World) (hr : Kd.C (Kd.slice 3 (Kd.int .i64)) w A t.length t) (hb : w.cell? ⟨b, 0, none⟩ = some (.int .i64 o)) (h0 : 0 ≤ o) (h1 : ∀ r ∈ t, o < (r.length : Int)) :
    Calls Try.prog 63 #[.slice A t.length c, .func (.func 64) #[] #[.pointer (some ⟨b, 0, none⟩)]] w fun e w' => e = .returned (.int .i64 (wsum (column t o) 0)) ∧ w = w' := by
  have HR := Aside0.mk hr
  have hm : t.length ≤ 9223372036854775807 := hr.2.1
  have H1 := Aside0.mk h1
  clear hr h1
  go_enter Try.func63, Try.ntmps63
  go_wp2
  go_loop [5, 10] (fun s i => ∃ k : Nat, k ≤ t.length ∧ i = .int .i64 k ∧ s = .int .i64 (wsum ((column t o).take k) 0)) (fun _ i => t.length - (intOf i).toNat)
  case atStart => exact ⟨0, by omega, rfl, rfl⟩
  case round =>
    obtain ⟨k, hk, rfl, rfl⟩ := hrel
    by_cases hlt : k < t.length
    · obtain ⟨ad, A1, c1, e, hx, hl, hi⟩ := at_L1 HR.out k (by omega) (by omega)
      cases e
      rw [Int.toNat_natCast] at hx
      have hg : rd_L1 t k = t[k] := by simp [rd_L1, List.getD_eq_getElem?_getD, List.getElem?_eq_getElem hlt]
      have ho : o < ((rd_L1 t k).length : Int) := by rw [hg]; exact H1.out _ (List.getElem_mem hlt)
      have hs : wsum ((column t o).take (k + 1)) 0 = wrap64 (wsum ((column t o).take k) 0 + rd (rd_L1 t k) o) := by
        rw [List.take_succ_eq_append_getElem (by simpa [column] using hlt), wsum_snoc, hg]; simp [column]
      have HS := Aside0.mk hs
      have HI := Aside0.mk hi
      clear hs hi hg
      go_wp2_with (go_at_call 64; refine (cell64 _ _ _ _ _ _ HI.out hb h0 ho).mono ?_; rintro e w' ⟨rfl, rfl⟩)
      go_round
      case rel => exact ⟨k + 1, by omega, by go_num, by rw [HS.out]⟩
      case measure => simp [intOf]; omega
    · go_wp2
      go_ret
      exact ⟨by rw [List.take_of_length_le (by simpa [column] using (by omega : t.length ≤ k))]; rfl, rfl⟩

theorem stored_any (A : Option Addr) (c : Nat) (t : List (List Int)) (o : Int) (w : World) (hr : Kd.C (Kd.slice 3 (Kd.int .i64)) w A t.length t) (h0 : 0 ≤ o) (h1 : ∀ r ∈ t, o < (r.length : Int)) :
    Calls Try.prog 42 #[.slice A t.length c, .int .i64 o] w fun e w' => e = .returned (.int .i64 (wsum (column t o) 0)) ∧ Below w.heap.size w w' := by
  have HR := Aside0.mk hr
  have H1 := Aside0.mk h1
  clear hr h1
  go_enter Try.func42, Try.ntmps42
  go_wp2_with (go_at_call 63; refine (sum_stored _ _ _ _ o _ (Kd.C_below HR.out ((Below.refl _ _).alloc (Nat.le_refl _) _)) (by simp) h0 H1.out).mono ?_; rintro e w' ⟨rfl, rfl⟩)
  go_ret
  exact ⟨rfl, (Below.refl _ _).alloc (Nat.le_refl _) _⟩

end Go.Proofs.Ytdljbmgknhbceaa.A
