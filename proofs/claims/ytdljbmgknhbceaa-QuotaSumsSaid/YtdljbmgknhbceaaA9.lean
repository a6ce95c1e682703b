import Derived.Test.YtdljbmgknhbceaaA2
import Derived.Test.YtdljbmgknhbceaaA3
import Derived.Test.YtdljbmgknhbceaaA8
namespace Go.Proofs.Ytdljbmgknhbceaa.A
open Go.RowKit Go.Proofs.YtdljbmgknhbceaaW.PrintWords Go.Proofs.YtdljbmgknhbceaaW.PrintLast Go.Proofs.YtdljbmgknhbceaaW.PrintMore Go.Proofs.Ytdljbmgknhbceaa.Q
set_option linter.unusedVariables false
set_option linter.unusedSimpArgs false

abbrev KT := Kd.slice 3 (Kd.int .i64)

/-- An inner row of a table of the call's own: read and stored into. -/
theorem tab_at {W : World} {base : Nat} {ok : Nat → Prop} {ad : Addr} {n cap : Nat} {t : List (List Int)} (h : Kd.S KT 31 W base ok (.slice (some ad) n cap) t) (i j : Int) (i0 : 0 ≤ i) (i1 : i < t.length) (j0 : 0 ≤ j) (j1 : j < (rd_L1 t i).length) :
    ∃ g cp, W.cell? (ad.add i.toNat) = some (.slice (some ⟨g, 0, none⟩) (rd_L1 t i).length cp) ∧ W.cell? ⟨g, j.toNat, none⟩ = some (.int .i64 (rd (rd_L1 t i) j)) ∧ W.frozen? ⟨g, j.toNat, none⟩ = false ∧ base ≤ g ∧ (ok g ∧ ∃ cells, W.heap[g]? = some (.cells cells 3 (0, 0))) ∧
      ∀ x, Kd.S KT 31 (W.setCell ⟨g, j.toNat, none⟩ (.int .i64 x)) base ok (.slice (some ad) n cap) (t.set i.toNat ((rd_L1 t i).set j.toNat x)) ∧ W.grownBy (W.setCell ⟨g, j.toNat, none⟩ (.int .i64 x)) (some g) := by
  obtain ⟨hn, _, _⟩ := Kd.S_reads' h
  obtain ⟨oki, c, hcl, hM, hcc, hok, hb⟩ := Kd.S_borrow h ([] : List Int) i i0 (by omega)
  obtain ⟨v, rfl, hR⟩ := hM
  have hR1 : Kd.R (Kd.int .i64) 3 W base oki v (rd_L1 t i) := hR
  obtain ⟨Av, cp, rfl⟩ := Kd.R_slice hR1
  obtain ⟨ad2, e, hx⟩ := Kd.at_int (Kd.R_reads' hR1).2.2 j j0 j1
  cases e
  obtain ⟨inner, ho⟩ := Kd.R_own hR1
  have ho' := ho
  rcases ho'.2 with ⟨h0, _⟩ | ⟨g, cap', cur, he, hbg, hh, _⟩
  · cases h0
  · injection he with he1 he2 he3
    injection he1 with he1
    subst he1
    refine ⟨g, cp, ?_, ?_, ?_, hbg, ⟨(hok _ (hR1.1 _ rfl)).1, cur, hh⟩, fun x => ?_⟩
    · have := hcc 0 _ rfl
      simpa [KT, Kd.slice] using this
    · rwa [add_plain] at hx
    · simp [World.frozen?, hh]
    · obtain ⟨h1, h2⟩ := Kd.R_putg hR1 j x
      refine ⟨hb h2 (fun k hk => ?_) ⟨_, rfl, h1⟩, h2⟩
      injection hk with hk
      subst hk
      exact hR1.1 _ rfl

/-- The same cells, by what is read. -/
theorem tab_len {W : World} {base : Nat} {ok : Nat → Prop} {v : Value} {t : List (List Int)} (h : Kd.S KT 31 W base ok v t) : ∃ A c, v = .slice A t.length c := Kd.S_slice h

def fitsT (t : List (List Int)) (q : List Int) : Bool := validT t && (decide (q.length = t.length) && !badAny q)

set_option maxHeartbeats 400000 in
theorem fits_any (A : Option Addr) (c : Nat) (t : List (List Int)) (A1 : Option Addr) (c1 : Nat) (q : List Int) (w : World) (hr : Kd.C KT w A t.length t) (hr1 : Kd.C (Kd.int .i64) w A1 q.length q) :
    Calls Try.prog 46 #[.slice A t.length c, .slice A1 q.length c1] w fun e w' => e = .returned (.bool (fitsT t q)) ∧ Drawn0 w w' := by
  have HR := Aside0.mk hr
  have HR1 := Aside0.mk hr1
  clear hr hr1
  cases hv : validT t with
  | false =>
    have hv' := Aside0.mk hv
    have hf : Aside0 (fitsT t q = false) := ⟨by rw [fitsT, hv]; rfl⟩
    clear hv
    go_enter Try.func46, Try.ntmps46
    go_wp2_with (go_at_call 18; refine (valid_any _ _ _ _ HR.out).mono ?_; rw [hv'.out]; rintro e w' ⟨rfl, ⟨m, rfl⟩⟩)
    go_ret
    exact ⟨by rw [hf.out]; rfl, by repeat (first | exact Drawn0.refl _ | apply Drawn0.step)⟩
  | true =>
    have hv' := Aside0.mk hv
    by_cases hl : q.length = t.length
    · have h1b : ((q.length : Int) == (t.length : Int)) = true := beq_iff_eq.2 (by omega)
      have h1c : (q.length == t.length) = true := beq_iff_eq.2 hl
      have hf : Aside0 (fitsT t q = !badAny q) := ⟨by rw [fitsT, hv]; simp [hl]⟩
      clear hv hl
      go_enter Try.func46, Try.ntmps46
      go_wp2_with (first | (go_at_call 18; refine (valid_any _ _ _ _ HR.out).mono ?_; rw [hv'.out]; rintro e w' ⟨rfl, ⟨m, rfl⟩⟩) | (go_at_call 43; refine (contains66 _ _ _ _ (Kd.C_drewN HR1.out _)).mono ?_; rintro e w' ⟨rfl, ⟨m2, rfl⟩⟩))
      go_ret
      exact ⟨by rw [hf.out]; rfl, by repeat (first | exact Drawn0.refl _ | apply Drawn0.step)⟩
    · have h1b : ((q.length : Int) == (t.length : Int)) = false := beq_eq_false_iff_ne.2 (by omega)
      have h1c : (q.length == t.length) = false := beq_eq_false_iff_ne.2 hl
      have hf : Aside0 (fitsT t q = false) := ⟨by rw [fitsT, hv]; simp [hl]⟩
      clear hv hl
      go_enter Try.func46, Try.ntmps46
      go_wp2_with (go_at_call 18; refine (valid_any _ _ _ _ HR.out).mono ?_; rw [hv'.out]; rintro e w' ⟨rfl, ⟨m, rfl⟩⟩)
      go_ret
      exact ⟨by rw [hf.out]; rfl, by repeat (first | exact Drawn0.refl _ | apply Drawn0.step)⟩

set_option maxHeartbeats 1000000 in
theorem copied_any (A : Option Addr) (c : Nat) (t : List (List Int)) (w : World) (hr : Kd.C KT w A t.length t) (hn : t.length < 5864062014805) (hl : ∀ r ∈ t, r.length < 17592186044416) :
    Calls Try.prog 40 #[.slice A t.length c] w fun e w' => ∃ v : Value, e = .returned v ∧ Kd.S KT 31 w' w.heap.size (fun _ => True) v t ∧ Below w.heap.size w w' := by
  have HR := Aside0.mk hr
  have HL := Aside0.mk hl
  clear hr hl
  go_enter Try.func40, Try.ntmps40
  go_wp2
  go_loopw [3, 8] (fun v i wr => ∃ k : Nat, k ≤ t.length ∧ i = .int .i64 k ∧ Aside0 (Kd.S KT 31 wr w.heap.size (fun _ => True) v (t.take k)) ∧ Aside0 (Below w.heap.size w wr)) (fun _ i _ => t.length - (intOf i).toNat)
  case atStart => exact ⟨0, by omega, rfl, ⟨Kd.S_nil _ _ _ _ _⟩, ⟨Below.refl _ _⟩⟩
  case round =>
    obtain ⟨k, hk, rfl, HO, HB⟩ := hrel
    by_cases hlt : k < t.length
    · obtain ⟨ad, A1, c1, e, hx, hl1, hi⟩ := at_L1 (Kd.C_below HR.out HB.out) k (by omega) (by omega)
      cases e
      rw [Int.toNat_natCast] at hx
      have hg : rd_L1 t k = t[k] := by simp [rd_L1, List.getD_eq_getElem?_getD, List.getElem?_eq_getElem hlt]
      have hrl : Aside0 ((rd_L1 t k).length < 17592186044416) := ⟨by rw [hg]; exact HL.out _ (List.getElem_mem hlt)⟩
      have hs : Aside0 (t.take (k + 1) = t.take k ++ [rd_L1 t k]) := ⟨by rw [List.take_succ_eq_append_getElem hlt, hg]⟩
      have hll : Aside0 ((t.take k).length < 5864062014804) := ⟨by rw [List.length_take]; omega⟩
      have HI := Aside0.mk hi
      obtain ⟨P, hP⟩ : ∃ P, P = t.take k := ⟨_, rfl⟩
      rw [← hP] at HO hs hll
      clear hP
      obtain ⟨A3, c3, rfl⟩ := Kd.S_slice HO.out
      obtain ⟨row, hrow⟩ : ∃ r, r = rd_L1 t k := ⟨_, rfl⟩
      rw [← hrow] at hx HI hrl hs
      clear hg hl1 hi hrow
      go_wp2_with (first
        | (go_at_call 62; refine (clone_any _ _ _ _ HI.out hrl.out).mono ?_; rintro e w1 ⟨v1, rfl, hR, hb⟩; have n0_ := Aside0.mk (Kd.S_elder' HO.out (Kd.R_base hR) hb); have n1_ := Aside0.mk (Kd.R_lower hR HB.out.size); have n2_ := Aside0.mk (below_step HB.out hb); clear HO; clear HB; have HO := n0_; have HO2 := n1_; have HB := n2_; clear n0_ n1_ n2_ hR hb; obtain ⟨Ao, co, eo⟩ := Kd.R_slice HO2.out; subst eo)
        | ((with_reducible refine gate_builtin (b := .append) (xs := #[.tmp 12, .tmp 15]) rfl ?_); at_builtin; refine Kd.S_append KT (w0 := w) w.heap.size rfl (.tmp 12) (.tmp 15) 22 31 (.slice none 0 0) 24 rfl Try.underlying22 info31 rfl (by decide) (by omega) (.slice A3 P.length c3) P row [.slice Ao row.length co] (fun _ => True) (fun k_ => some k_ = (.slice Ao row.length co : Value).ownBlock) rfl rfl ?aP (fun k_ hk_ => ((Kd.R_mono (ok' := fun k_ => ((fun _ => True)) k_ ∧ some k_ ≠ (.slice A3 P.length c3 : Value).ownBlock) (Kd.R_apart' (HO2.out) (Kd.S_typed HO.out) (by decide)) (fun k_ hk => ⟨trivial, hk.2⟩))).1 k_ hk_.symm) ?aF ?aO ?aB ?aS ?aL ?_; (case aP => exact Kd.M_row (Kd.R_mono (Kd.R_tight rfl (Kd.R_mono (ok' := fun k_ => ((fun _ => True)) k_ ∧ some k_ ≠ (.slice A3 P.length c3 : Value).ownBlock) (Kd.R_apart' (HO2.out) (Kd.S_typed HO.out) (by decide)) (fun k_ hk => ⟨trivial, hk.2⟩))) (fun _ h_ => h_))); (case aB => exact HB.out); (case aF => exact (fun _ _ => trivial)); (case aO => exact Kd.S_mono HO.out (fun k_ hk => ⟨trivial, fun e_ => hk.2 e_⟩)); (case aS => exact (below_size HB.out)); (case aL => have := hll.out; omega); intro v173 w11 ho hb hg hat; rw [← hs.out] at ho; have n0_ := Aside0.mk (hb); have n1_ := Aside0.mk (ho); clear HB; clear HO; clear HO2; have HB := n0_; have HO := n1_; clear n0_ n1_ ho hb hg hat))
      go_roundw
      case rel => exact ⟨k + 1, by omega, by go_num, HO, HB⟩
      case measure => simp [intOf]; omega
    · have ht : Aside0 (t.take k = t) := ⟨List.take_of_length_le (by omega)⟩
      go_wp2
      go_ret
      exact ⟨_, rfl, by have := HO.out; rwa [ht.out] at this, HB.out⟩

end Go.Proofs.Ytdljbmgknhbceaa.A
