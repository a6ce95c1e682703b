import Derived.Test.YtdljbmgknhbceaaM1
import Derived.WalkSpells
import Derived.IntWalk
import Derived.StillTailTactics
namespace Go.Proofs.Ytdljbmgknhbceaa.A
open Go.RowKit Go.Proofs.YtdljbmgknhbceaaW.PrintWords Go.Proofs.YtdljbmgknhbceaaW.PrintLast Go.Proofs.YtdljbmgknhbceaaW.PrintMore Go.Proofs.Ytdljbmgknhbceaa.Q
attribute [local go_sem] max2_int min2_int max_two min_two max_three min_three max_four min_four
set_option linter.unusedVariables false
set_option linter.unusedSimpArgs false

theorem sq_of {n : Nat} {T : List (List Int)} (h : Sqn n T) : Sq T := fun i i0 i1 => by rw [h.1] at i1 ⊢; exact h.2 i i0 i1
/-- 'cycle' called at a table of the call's own. -/
theorem cycle_own (n : Nat) (A : Option Addr) (c : Nat) (T : List (List Int)) (W : World) (base : Nat) (ok : Nat → Prop) (hs : Kd.S KT 31 W base ok (.slice A n c) T) (hq : Good n T) (hn : n ≤ 12) (len : Nat) (hlen : len < 1000) (hlen1 : 1 ≤ len) :
    Calls Try.prog 54 #[.slice A n c, .int .i64 (len : Int)] W fun e w' => ∃ (Ac : Option Addr) (cc : Nat), e = .returned (.slice Ac (cycleOf T len).length cc) ∧ Kd.R (Kd.int .i64) 3 w' W.heap.size (fun k => W.heap.size ≤ k) (.slice Ac (cycleOf T len).length cc) (cycleOf T len) ∧ (Ac.isNone = decide (cycleOf T len = [])) ∧ Below W.heap.size W w' := by
  obtain ⟨rfl, _, hC⟩ := Kd.S_reads' hs
  refine (cycle_any A c T W hC (sq_of hq.1) (by omega) len hlen hlen1).mono ?_
  rintro e w' ⟨v, rfl, hR, hnil, hb⟩
  obtain ⟨Ac, cc, rfl⟩ := Kd.R_slice hR
  refine ⟨Ac, cc, rfl, Kd.R_mono (Kd.R_bound hR) (fun k hk => hk.2.1), ?_, hb⟩
  by_cases h : cycleOf T len = []
  · have := hnil h
    injection this with h1
    rw [h1, decide_eq_true h]
    rfl
  · rw [decide_eq_false h]
    obtain ⟨ad, e, _⟩ := Kd.at_int (Kd.R_reads' hR).2.2 0 (by omega) (by
      have := List.length_pos_iff.2 h
      omega)
    rw [e]
    rfl

set_option maxHeartbeats 4000000 in
set_option maxRecDepth 100000 in
theorem Cancel_any (A : Option Addr) (c : Nat) (t : List (List Int)) (w : World) (hr : Kd.C KT w A t.length t) :
    Calls Try.prog 27 #[.slice A t.length c] w fun e w' => ∃ v : Value, e = .returned (.tuple #[v, .int .i64 (cancelOut t).2]) ∧ Kd.S KT 31 w' w.heap.size (fun _ => True) v (cancelOut t).1 ∧ Below w.heap.size w w' := by
  have HR := Aside0.mk hr
  clear hr
  cases hv : validT t with
  | false =>
    have hv' := Aside0.mk hv
    have hf : Aside0 (cancelOut t = ([], 1)) := ⟨by rw [cancelOut, hv]; rfl⟩
    clear hv
    go_enter Try.func27, Try.ntmps27
    go_wp2_with (go_at_call 18; refine (valid_any _ _ _ _ HR.out).mono ?_; rw [hv'.out]; rintro e w' ⟨rfl, ⟨m, rfl⟩⟩)
    go_ret2
    exact ⟨_, by rw [hf.out]; rfl, by rw [hf.out]; exact Kd.S_nil _ _ _ _ _, pw_below_drewN (Below.refl _ _) _⟩
  | true =>
    have hv' := Aside0.mk hv
    have hf : Aside0 (cancelOut t = (cancelT t, 0)) := ⟨by rw [cancelOut, hv]; rfl⟩
    have hn12 := (valid_sq hv).1
    have hrows := Aside0.mk (valid_sq hv).2
    have HG := Aside0.mk (valid_good hv)
    obtain ⟨n, hn⟩ : ∃ n, n = t.length := ⟨_, rfl⟩
    clear hv
    go_enter Try.func27, Try.ntmps27
    go_wp2_with (first | (go_at_call 18; refine (valid_any _ _ _ _ HR.out).mono ?_; rw [hv'.out]; rintro e w' ⟨rfl, ⟨m, rfl⟩⟩) | (go_at_call 40; refine (copied_any _ _ _ _ (Kd.C_drewN HR.out _) (by omega) (fun r hr => by rw [(hrows.out r hr).1]; omega)).mono ?_; rintro e w2 ⟨v2, rfl, hS, hb⟩; obtain ⟨A6, c6, e6⟩ := Kd.S_slice hS; subst e6; have HS := Aside0.mk hS; have HB := Aside0.mk ((pw_below_drewN (Below.refl _ _) _).trans hb); clear hS hb))
    have qT : ∀ (w : World) (a : Option Addr) (n c n' c' : Nat), (binOp .neq 31 (.slice a n c) (.slice none n' c')).run Try.prog w = .ok (.bool (!a.isNone)) w := fun w a n c n' c' => run_neq_slice_nil_any w _ _ a n c n' c' Try.underlying31
    go_loopw [5] (fun l wr => ∃ (len : Nat) (T : List (List Int)), l = .int .i64 (len : Int) ∧ Aside0 (2 ≤ len ∧ len ≤ 14) ∧ Aside0 (cancelT t = cancelFrom (t.length + 1 - len) len T) ∧ Aside0 (Good t.length T) ∧ Aside0 (Kd.S KT 31 wr w.heap.size (fun _ => True) (.slice A6 t.length c6) T) ∧ Aside0 (Below w.heap.size w wr)) (fun l _ => t.length + 2 - (intOf l).toNat)
    case atStart => exact ⟨2, t, rfl, ⟨by omega⟩, ⟨rfl⟩, HG, HS, HB⟩
    case round =>
      clear HS HB
      obtain ⟨len, T, rfl, hlen, hE, hG, HO, HB⟩ := hrel
      have hl2 := hlen.out.1
      have hl14 := hlen.out.2
      by_cases hle : len ≤ t.length
      · have hleb : decide ((len : Int) ≤ (t.length : Int)) = true := decide_eq_true (by omega)
        have hE2 : Aside0 (cancelT t = cancelFrom (t.length - len) (len + 1) (cancelLen len (phi T + 1) T)) := ⟨by rw [hE.out, show t.length + 1 - len = (t.length - len) + 1 from by omega, cancelFrom]⟩
        go_wp2_with (go_at_call 54; refine (cycle_own _ _ _ T _ _ _ HO.out hG.out hn12 len (by omega) (by omega)).mono ?_; rintro e w3 ⟨Ac, cc, rfl, hR, hnn, hb⟩; have HC := Aside0.mk hR; have HN := Aside0.mk hnn; have HO3 := Aside0.mk (Kd.S_mono (Kd.S_below (Kd.S_mono (Kd.S_bound HO.out) (ok' := fun k => k < wr.heap.size) (fun k hk => hk.2.2.1)) hb) (ok' := fun k => k < wr.heap.size) (fun k hk => hk)); have HB3 := Aside0.mk (below_step HB.out hb); clear hR hnn hb)
        go_loopg [6] (phi T + 1) (fun kq v6 wr' => ∃ (T' : List (List Int)) (Ac : Option Addr) (cc hB : Nat), v6 = .slice Ac (cycleOf T' len).length cc ∧ Aside0 (cancelLen len (phi T + 1) T = cancelLen len kq T') ∧ Aside0 (phi T' < kq) ∧ Aside0 (Good t.length T') ∧ Aside0 (Kd.S KT 31 wr' w.heap.size (fun k => k < hB) (.slice A6 t.length c6) T') ∧ Aside0 (Kd.R (Kd.int .i64) 3 wr' hB (fun k => hB ≤ k) (.slice Ac (cycleOf T' len).length cc) (cycleOf T' len)) ∧ Aside0 (Ac.isNone = decide (cycleOf T' len = [])) ∧ Aside0 (Below w.heap.size w wr'))
        case atStart => exact ⟨T, Ac, cc, wr.heap.size, rfl, ⟨rfl⟩, ⟨by omega⟩, hG, HO3, HC, HN, HB3⟩
        case round =>
          clear HO3 HC HN HB3
          obtain ⟨T', Ad, cd, hB, rfl, hF, hph, hG', HO', HC', HN', HB'⟩ := hrel
          cases gk with
          | zero => exact absurd hph.out (by omega)
          | succ k1 =>
            by_cases hc : cycleOf T' len = []
            · have hfin : Aside0 (cancelLen len (phi T + 1) T = T') := ⟨by rw [hF.out, cancelLen, if_pos hc]⟩
              have hnil : Ad.isNone = true := by rw [HN'.out, decide_eq_true hc]
              obtain ⟨cl, hcl⟩ : ∃ x, x = (cycleOf T' len).length := ⟨_, rfl⟩
              rw [← hcl]
              clear hc hcl
              go_wp2
              go_roundw
              case rel => exact ⟨len + 1, T', by go_num, ⟨by omega⟩, ⟨by rw [hE2.out, hfin.out]; congr 1; omega⟩, hG', ⟨Kd.S_mono HO'.out (fun _ _ => trivial)⟩, HB'⟩
              case measure => simp [intOf]; omega
            · have hcyc := cycle_cyc hG'.out len (by omega) hc
              have hF2 : Aside0 (cancelLen len (phi T + 1) T = cancelLen len k1 (cancelOnce T' (cycleOf T' len))) := ⟨by rw [hF.out, cancelLen, if_neg hc]⟩
              have hnn : Ad.isNone = false := by rw [HN'.out, decide_eq_false hc]
              obtain ⟨C, hC⟩ : ∃ C, C = cycleOf T' len := ⟨_, rfl⟩
              rw [← hC] at hcyc hF2 HC' ⊢
              have hCY := Aside0.mk hcyc.1
              have hCl : C.length = len := hcyc.2
              rw [hCl] at HC' ⊢
              have HCL := Aside0.mk hCl
              clear hc hC hcyc hCl HN'
              go_wp2
              obtain ⟨wb, rfl⟩ : ∃ wo : World, wo = wr := ⟨_, rfl⟩
              have hln0 : ((len : Int) == 0) = false := beq_eq_false_iff_ne.2 (by omega)
              have hln1 : ¬ ((len : Int) = 0) := by omega
              go_loopw [7, 33] (fun v7 i wi => ∃ k : Nat, i = .int .i64 k ∧ Aside0 (k ≤ len) ∧ v7 = .int .i64 (leastTo T' C k) ∧ Drawn0 wb wi) (fun _ i _ => len - (intOf i).toNat)
              case atStart => exact ⟨0, rfl, ⟨by omega⟩, rfl, Drawn0.refl _⟩
              case round =>
                obtain ⟨k, rfl, hk, rfl, ⟨m3, rfl⟩⟩ := hrel
                have hkl := hk.out
                by_cases hlt : k < len
                · have hlb : decide ((k : Int) < (len : Int)) = true := decide_eq_true (by omega)
                  have hin := hCY.out.ins k (by rw [HCL.out]; exact hlt)
                  have hnx := nxt_in hCY.out k
                  have hrow := (Kd.R_reads' HC'.out).2.2
                  obtain ⟨adc, e, hx1⟩ := Kd.at_int hrow k (by omega) (by rw [HCL.out]; omega)
                  cases e
                  have hmm : (k + 1) % len < len := Nat.mod_lt _ (by omega)
                  obtain ⟨adc', e, hx2⟩ := Kd.at_int hrow (((k + 1) % len : Nat) : Int) (by omega) (by rw [HCL.out]; omega)
                  cases e
                  rw [Int.toNat_natCast] at hx1 hx2
                  have hnd : rd C (((k + 1) % len : Nat) : Int) = nxt C k := by unfold nxt; rw [HCL.out]
                  rw [hnd] at hx2
                  obtain ⟨a, ha⟩ : ∃ a, a = rd C k := ⟨_, rfl⟩
                  obtain ⟨b, hb⟩ : ∃ b, b = nxt C k := ⟨_, rfl⟩
                  have hls : Aside0 (leastTo T' C (k + 1) = min (leastTo T' C k) (get T' a b)) := ⟨by rw [leastTo, ha, hb]⟩
                  rw [← ha] at hx1 hin
                  rw [← hb] at hx2 hnx
                  obtain ⟨a0, a1⟩ := hin
                  obtain ⟨b0, b1⟩ := hnx
                  have hbl : b < ((rd_L1 T' a).length : Int) := by rw [hG'.out.1.2 a a0 a1]; exact b1
                  have hA6 : ∃ x, A6 = some x := by
                    obtain ⟨A', c', e, hle, hC⟩ := Kd.S_reads HO'.out
                    injection e with e1 e2 e3
                    obtain ⟨ad', _, _, e9, _⟩ := at_L1 hC a a0 (by rw [hG'.out.1.1]; exact a1)
                    exact ⟨ad', by rw [e1, e9]⟩
                  obtain ⟨A6, rfl⟩ := hA6
                  obtain ⟨g, d, s0, s1, _, _, _, _⟩ := tab_at HO'.out a b a0 (by rw [hG'.out.1.1]; exact a1) b0 hbl
                  have hk1 : IntKind.i64.wrap ((k : Int) + 1) = (k : Int) + 1 := IntWalk.i64_in _ (by omega)
                  have hk2 : ((k : Int) + 1).tmod (len : Int) = (((k + 1) % len : Nat) : Int) := by rw [Int.tmod_eq_emod_of_nonneg (by omega)]; norm_cast
                  have hk3 : IntKind.i64.wrap ((((k + 1) % len : Nat) : Int)) = (((k + 1) % len : Nat) : Int) := IntWalk.i64_in _ (by omega)
                  obtain ⟨q, hq⟩ : ∃ q, q = (k + 1) % len := ⟨_, rfl⟩
                  rw [← hq] at hx2 hk2 hk3 hmm
                  have hmI : (q : Int) < (len : Int) := by omega
                  clear hq ha hb hnd hrow
                  go_wp2
                  go_quiet (fail)
                  rw [show (if rd (rd_L1 T' a) b < leastTo T' C k then rd (rd_L1 T' a) b else leastTo T' C k) = leastTo T' C (k + 1) from by rw [hls.out]; unfold get; split <;> omega]
                  clear hk1 hk2 hk3
                  go_wp2
                  go_roundw
                  case rel => exact ⟨k + 1, by go_num, ⟨by omega⟩, rfl, by repeat (first | exact Drawn0.refl _ | apply Drawn0.step)⟩
                  case measure => simp [intOf]; omega
                · have hlb : decide ((k : Int) < (len : Int)) = false := decide_eq_false (by omega)
                  obtain rfl : k = len := by omega
                  obtain ⟨L, hL⟩ : ∃ L, L = leastTo T' C k := ⟨_, rfl⟩
                  have hsub : Aside0 (cancelOnce T' C = subTo T' C L k) := ⟨by rw [cancelOnce, HCL.out, hL]⟩
                  have hLp := least_pos hCY.out k (by rw [HCL.out]; omega)
                  have hLe := Aside0.mk (fun i (hi : i < k) => least_le T' C k i hi)
                  rw [← hL] at hLp hLe ⊢
                  obtain ⟨hLp0, hLp1⟩ := hLp
                  clear hL
                  go_wp2
                  go_loopw [56] (fun i wi => ∃ j : Nat, i = .int .i64 j ∧ Aside0 (j ≤ k) ∧ Aside0 (Kd.S KT 31 wi w.heap.size (fun k => k < hB) (.slice A6 t.length c6) (subTo T' C L j)) ∧ Aside0 (Kd.R (Kd.int .i64) 3 wi hB (fun k => hB ≤ k) (.slice Ad k cd) C) ∧ Aside0 (Below w.heap.size w wi)) (fun i _ => k - (intOf i).toNat)
                  case atStart => exact ⟨0, rfl, ⟨by omega⟩, ⟨Kd.S_drewN HO'.out _⟩, ⟨Kd.R_drewN HC'.out _⟩, ⟨pw_below_drewN HB'.out _⟩⟩
                  case round =>
                    clear HO' HC' HB'
                    obtain ⟨j, rfl, hj, HO', HC', HB'⟩ := hrel
                    have hjk := hj.out
                    by_cases hlt : j < k
                    · have hlb2 : decide ((j : Int) < (k : Int)) = true := decide_eq_true (by omega)
                      obtain ⟨we, rfl⟩ : ∃ wo : World, wo = wr := ⟨_, rfl⟩
                      have hin := hCY.out.ins j (by rw [HCL.out]; exact hlt)
                      have hnx := nxt_in hCY.out j
                      have hsg := (sub_get hG'.out hCY.out L (by omega) j (by rw [HCL.out]; omega) (fun i hi => hLe.out i (by omega))).1
                      have hmm : (j + 1) % k < k := Nat.mod_lt _ (by omega)
                      have hnd : rd C (((j + 1) % k : Nat) : Int) = nxt C j := by unfold nxt; rw [HCL.out]
                      obtain ⟨a, ha⟩ : ∃ a, a = rd C j := ⟨_, rfl⟩
                      obtain ⟨b, hb⟩ : ∃ b, b = nxt C j := ⟨_, rfl⟩
                      obtain ⟨T3, hT3⟩ : ∃ T3, T3 = subTo T' C L j := ⟨_, rfl⟩
                      have hls : Aside0 (subTo T' C L (j + 1) = upd T3 a b (wrap64 (get T3 a b - L))) := ⟨by rw [subTo, ha, hb, hT3]⟩
                      rw [← hT3] at hsg HO'
                      rw [← ha] at hin
                      rw [← hb] at hnx hnd
                      have HND := Aside0.mk hnd
                      have HAA := Aside0.mk ha
                      obtain ⟨a0, a1⟩ := hin
                      obtain ⟨b0, b1⟩ := hnx
                      have hbl : b < ((rd_L1 T3 a).length : Int) := by rw [hsg.2 a a0 a1]; exact b1
                      have hA6 : ∃ x, A6 = some x := by
                        obtain ⟨A', c', e, hle, hC⟩ := Kd.S_reads HO'.out
                        injection e with e1 e2 e3
                        obtain ⟨ad', _, _, e9, _⟩ := at_L1 hC a a0 (by rw [hsg.1]; exact a1)
                        exact ⟨ad', by rw [e1, e9]⟩
                      obtain ⟨A6, rfl⟩ := hA6
                      have hAd : ∃ x, Ad = some x := by
                        obtain ⟨adc, e, _⟩ := Kd.at_int (Kd.R_reads' HC'.out).2.2 j (by omega) (by rw [HCL.out]; omega)
                        exact ⟨adc, e⟩
                      obtain ⟨adc, rfl⟩ := hAd
                      have HSQ := Aside0.mk hsg
                      have hk1 : IntKind.i64.wrap ((j : Int) + 1) = (j : Int) + 1 := IntWalk.i64_in _ (by omega)
                      have hk2 : ((j : Int) + 1).tmod (k : Int) = (((j + 1) % k : Nat) : Int) := by rw [Int.tmod_eq_emod_of_nonneg (by omega)]; norm_cast
                      have hk3 : IntKind.i64.wrap ((((j + 1) % k : Nat) : Int)) = (((j + 1) % k : Nat) : Int) := IntWalk.i64_in _ (by omega)
                      obtain ⟨q, hq⟩ : ∃ q, q = (j + 1) % k := ⟨_, rfl⟩
                      rw [← hq] at HND hk2 hk3 hmm
                      have hmI : (q : Int) < (k : Int) := by omega
                      have hz0 : ((k : Int) == 0) = false := beq_eq_false_iff_ne.2 (by omega)
                      have hz1 : ¬ ((k : Int) = 0) := by omega
                      have hz2 : ¬ (k = 0) := by omega
                      obtain ⟨adc0, e, hx0⟩ := Kd.at_int (Kd.R_reads' HC'.out).2.2 j (by omega) (by rw [HCL.out]; omega)
                      cases e
                      rw [Int.toNat_natCast, ← HAA.out] at hx0
                      clear hq ha hb hnd hT3 hsg
                      go_wp2
                      have HO5 := Aside0.mk (Kd.S_drew HO'.out)
                      have HC5 := Aside0.mk (Kd.R_drew HC'.out)
                      have HB5 := Aside0.mk (below_drew HB'.out)
                      clear hx0
                      refine wp_region_still_tail 16 (by kernel_rfl) (by kernel_rfl) ?_
                      change wpStill _ _ we.drew (fun a' => wpList _ _ _ _ a' we.drew) _ _
                      generalize we.drew = w5 at HO5 HC5 HB5 ⊢
                      obtain ⟨adc2, e, hx2⟩ := Kd.at_int (Kd.R_reads' HC5.out).2.2 (q : Int) (by omega) (by rw [HCL.out]; omega)
                      cases e
                      rw [Int.toNat_natCast, HND.out] at hx2
                      obtain ⟨g, d, s0, s1, s2, s3, ⟨hgB, gc, s4⟩, s5⟩ := tab_at HO5.out a b a0 (by rw [HSQ.out.1]; exact a1) b0 hbl
                      have S5 := Aside0.mk s5
                      have hgB' := Aside0.mk hgB
                      clear s5 s4 hgB
                      simp only [List.take_succ_cons, List.take_zero, List.drop_succ_cons, List.drop_zero]
                      repeat still_step
                      refine wpStill_nil ?_
                      clear hk1 hk2 hk3
                      go_wp2
                      go_roundw
                      case rel => exact ⟨j + 1, by go_num, ⟨by omega⟩, ⟨by rw [hls.out]; exact (S5.out _).1⟩, ⟨Kd.R_far HC5.out (fun k hk => by have := hgB'.out; have : g < hB := this; show k ≠ g; omega) _⟩, ⟨HB5.out.setCell s3 _⟩⟩
                      case measure => simp [intOf]; omega
                    · have hlb2 : decide ((j : Int) < (k : Int)) = false := decide_eq_false (by omega)
                      obtain rfl : j = k := by omega
                      rw [← hsub.out] at HO'
                      have hcg := cancel_good hG'.out hCY.out
                      have HG2 := Aside0.mk hcg.1
                      have hph2 := hcg.2
                      obtain ⟨T2, hT2⟩ : ∃ T2, T2 = cancelOnce T' C := ⟨_, rfl⟩
                      rw [← hT2] at HO' HG2 hF2 hph2
                      have HPH := Aside0.mk hph2
                      clear hT2 hcg hph2
                      obtain ⟨we, rfl⟩ : ∃ wo : World, wo = wr := ⟨_, rfl⟩
                      go_wp2_with (go_at_call 54; refine (cycle_own _ _ _ T2 _ _ _ HO'.out HG2.out hn12 j (by omega) (by omega)).mono ?_; rintro e w3 ⟨Ac2, cc2, rfl, hR, hnn2, hb⟩; have HC2 := Aside0.mk hR; have HN2 := Aside0.mk hnn2; have HO3 := Aside0.mk (Kd.S_mono (Kd.S_below (Kd.S_mono (Kd.S_bound HO'.out) (ok' := fun k => k < we.heap.size) (fun k hk => hk.2.2.1)) hb) (ok' := fun k => k < we.heap.size) (fun k hk => hk)); have HB3 := Aside0.mk (below_step HB'.out hb); clear hR hnn2 hb)
                      go_roundg k1
                      case measure => omega
                      case rel => exact ⟨T2, Ac2, cc2, we.heap.size, rfl, hF2, ⟨by have := HPH.out; have := hph.out; omega⟩, HG2, HO3, HC2, HN2, HB3⟩
      · have hleb : decide ((len : Int) ≤ (t.length : Int)) = false := decide_eq_false (by omega)
        have hfin : Aside0 (cancelT t = T) := ⟨by rw [hE.out, show t.length + 1 - len = 0 from by omega]; rfl⟩
        go_wp2
        go_ret2
        exact ⟨_, by rw [hf.out]; rfl, by rw [hf.out, hfin.out]; exact HO.out, HB.out⟩

end Go.Proofs.Ytdljbmgknhbceaa.A
