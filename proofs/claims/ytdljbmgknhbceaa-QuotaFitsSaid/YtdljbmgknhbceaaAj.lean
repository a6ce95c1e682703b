import Derived.Test.YtdljbmgknhbceaaBd
import Derived.Test.YtdljbmgknhbceaaM2
namespace Go.Proofs.Ytdljbmgknhbceaa.A
open Go.RowKit Go.Proofs.YtdljbmgknhbceaaW.PrintWords Go.Proofs.YtdljbmgknhbceaaW.PrintLast Go.Proofs.YtdljbmgknhbceaaW.PrintMore Go.Proofs.Ytdljbmgknhbceaa.Q
set_option linter.unusedVariables false
set_option linter.unusedSimpArgs false

/-- The network and the list of moves while they are built. -/
structure Bld (w2 wr : World) (N : Nat) (okg : Nat → Prop) (hg1 : Nat) (A13 : Addr) (c13 : Nat) (v16 : Value) (G : List (List Int)) (ord : List S29) : Prop where
  sg : Kd.S KT 31 wr w2.heap.size okg (.slice (some A13) N c13) G
  sq : Sqn N G
  ro : Kd.R k29 29 wr w2.heap.size (fun k => hg1 ≤ k) v16 ord
  be : Below w2.heap.size w2 wr
  hg : hg1 ≤ wr.heap.size
  hok : ∀ k, okg k → w2.heap.size ≤ k ∧ k < hg1
section
variable {w2 wr w1 : World} {N : Nat} {okg : Nat → Prop} {hg1 : Nat} {A13 : Addr} {c13 : Nat} {v16 v : Value} {G : List (List Int)} {ord ord' : List S29}
theorem Bld.drew (h : Bld w2 wr N okg hg1 A13 c13 v16 G ord) : Bld w2 wr.drew N okg hg1 A13 c13 v16 G ord := ⟨Kd.S_drew h.sg, h.sq, Kd.R_drew h.ro, below_drew h.be, h.hg, h.hok⟩
theorem Bld.drewN (h : Bld w2 wr N okg hg1 A13 c13 v16 G ord) (m : Nat) : Bld w2 (wr.drewN m) N okg hg1 A13 c13 v16 G ord := ⟨Kd.S_drewN h.sg m, h.sq, Kd.R_drewN h.ro m, pw_below_drewN h.be m, h.hg, h.hok⟩
theorem Bld.at (h : Bld w2 wr N okg hg1 A13 c13 v16 G ord) (i j : Int) (i0 : 0 ≤ i) (i1 : i < N) (j0 : 0 ≤ j) (j1 : j < N) :
    ∃ g d, wr.cell? (A13.add i.toNat) = some (.slice (some ⟨g, 0, none⟩) N d) ∧ wr.cell? ⟨g, j.toNat, none⟩ = some (.int .i64 (get G i j)) ∧ wr.frozen? ⟨g, j.toNat, none⟩ = false ∧
      ∀ x, Bld w2 (wr.setCell ⟨g, j.toNat, none⟩ (.int .i64 x)) N okg hg1 A13 c13 v16 (upd G i j x) ord := by
  have hrl := h.sq.2 i i0 i1
  obtain ⟨g, d, s0, s1, s2, s3, ⟨s4, _⟩, s5⟩ := tab_at h.sg i j i0 (by rw [h.sq.1]; exact i1) j0 (by rw [hrl]; exact j1)
  rw [hrl] at s0
  refine ⟨g, d, s0, s1, s2, fun x => ⟨(s5 x).1, h.sq.upd _ _ _, ?_, h.be.setCell s3 _, by simpa [World.setCell] using h.hg, h.hok⟩⟩
  exact Kd.R_far h.ro (fun k hk => by
    have := (h.hok g s4).2
    have hk' : hg1 ≤ k := hk
    show k ≠ g
    omega) _
theorem Bld.append (h : Bld w2 wr N okg hg1 A13 c13 v16 G ord) (hg : wr.grownBy w1 v16.ownBlock) (hb : Below w2.heap.size w2 w1) (hr : Kd.R k29 29 w1 w2.heap.size (fun k => hg1 ≤ k) v ord') : Bld w2 w1 N okg hg1 A13 c13 v G ord' :=
  ⟨Kd.S_grown h.sg hg (fun k hk e => by
      have h1 : hg1 ≤ k := h.ro.1 k e.symm
      have := (h.hok k hk).2
      omega), h.sq, hr, hb, Nat.le_trans h.hg hg.size, h.hok⟩
end

set_option maxHeartbeats 16000000 in
set_option maxRecDepth 100000 in
theorem Settle_any (A : Option Addr) (c : Nat) (t : List (List Int)) (A1 : Option Addr) (c1 : Nat) (q : List Int) (w : World) (hr : Kd.C KT w A t.length t) (hr1 : Kd.C (Kd.int .i64) w A1 q.length q) :
    Calls Try.prog 20 #[.slice A t.length c, .slice A1 q.length c1] w fun e w' => ∃ v : Value, e = .returned (.tuple #[v, .int .i64 (settleOut t q).2]) ∧ Kd.R k29 29 w' w.heap.size (fun _ => True) v (settleOut t q).1 ∧ Below w.heap.size w w' := by
  have HR := Aside0.mk hr
  have HR1 := Aside0.mk hr1
  have hu29 := Try.underlying29
  clear hr hr1
  cases hv : fitsT t q with
  | false =>
    have hv' := Aside0.mk hv
    have hf : Aside0 (settleOut t q = ([], 1)) := ⟨by simp [settleOut, hv]⟩
    clear hv
    go_enter Try.func20, Try.ntmps20
    go_wp2_with (go_at_call 46; refine (fits_any _ _ _ _ _ _ _ HR.out HR1.out).mono ?_; rw [hv'.out]; rintro e w' ⟨rfl, ⟨m, rfl⟩⟩)
    go_ret2
    exact ⟨_, by rw [hf.out]; rfl, by rw [hf.out]; exact Kd.R_nil _ _ _ _ _, pw_below_drewN (Below.refl _ _) _⟩
  | true =>
    have hv' := Aside0.mk hv
    obtain ⟨n, hn⟩ : ∃ n, n = t.length := ⟨_, rfl⟩
    have hval : validT t = true := by simp [fitsT] at hv; exact hv.1
    have hql : q.length = n := by simp [fitsT] at hv; rw [hn]; exact hv.2.1
    have hn12 : n ≤ 12 := by rw [hn]; exact (valid_sq hval).1
    have HG := Aside0.mk (show Good n t from by rw [hn]; exact valid_good hval)
    obtain ⟨has, hhas⟩ : ∃ has, has = heldT t := ⟨_, rfl⟩
    have hhl : Aside0 (has.length = n) := ⟨by rw [hhas, hn]; simp [heldT]⟩
    have HHB := Aside0.mk (show ∀ f : Int, 0 ≤ f → f < n → 0 ≤ rd has f ∧ rd has f ≤ 13194139533312 from fun f f0 f1 => by rw [hhas]; exact held_bound hval f f0 (by omega))
    have HQB := Aside0.mk (show ∀ f : Int, 0 ≤ f → f < n → 0 ≤ rd q f ∧ rd q f ≤ 1099511627776 from fun f f0 f1 => quota_bound hv f f0 (by omega))
    have hf : Aside0 (settleOut t q = (let b := sFto n has q t (zeroNet n, 0, []) n
      let r := flowG 0 1 b.2.1 b.2.1.toNat b.1 0
      if r.2 < b.2.1 then ([], 7) else ((settleGo n b.2.2 (r.1, [])).2, 0))) := ⟨by rw [settleOut, if_pos hv, buildNet, ← hn, ← hhas]⟩
    have HH := Aside0.mk hhas
    rw [← hn] at HR ⊢
    rw [hql] at HR1 ⊢
    have HQL := Aside0.mk hql
    have HTL := Aside0.mk hn
    clear hv hval hql hn hhas
    have HFIT := Aside0.mk (fits_any A c t A1 c1 q)
    rw [← HTL.out, HQL.out] at HFIT
    have HHELD := Aside0.mk (held_any A c t)
    rw [← HTL.out, ← HH.out] at HHELD
    have hnn0 : 0 ≤ (n : Int) * (n : Int) := Int.mul_nonneg (by omega) (by omega)
    have hnn1 : (n : Int) * (n : Int) ≤ 144 := Int.le_trans (Int.mul_le_mul (show (n : Int) ≤ 12 by omega) (show (n : Int) ≤ 12 by omega) (by omega) (by omega)) (by omega)
    go_enter Try.func20, Try.ntmps20
    go_upto_region 8 with (first
      | (go_at_call 46; refine (HFIT.out _ HR.out HR1.out).mono ?_; rw [hv'.out]; rintro e w' ⟨rfl, ⟨m, rfl⟩⟩)
      | (go_at_call 41; refine (HHELD.out _ (Kd.C_drewN HR.out _) (by omega)).mono ?_; rintro e w1 ⟨v1, rfl, hR, hb⟩; obtain ⟨A7, c7, e7⟩ : ∃ A c, v1 = .slice A n c := (by obtain ⟨A, c, e⟩ := Kd.R_slice hR; exact ⟨A, c, by rw [e, hhl.out]⟩); subst e7; have HHR := Aside0.mk hR; have HB1 := Aside0.mk (show Below w.heap.size w w1 from (pw_below_drewN (Below.refl _ _) _).trans hb); clear hR hb))
    obtain ⟨w2, hw2⟩ : ∃ w2, w2 = w1.alloc (.cells #[.int .i64 (n : Int)] 3) := ⟨_, rfl⟩
    have hb12 : Below w1.heap.size w1 w2 := by rw [hw2]; exact (Below.refl _ _).alloc (Nat.le_refl _) _
    have HT2 := Aside0.mk (Kd.C_below HR.out (below_step HB1.out hb12))
    have HQ2 := Aside0.mk (Kd.C_below HR1.out (below_step HB1.out hb12))
    have HH2 := Aside0.mk (show Kd.C (Kd.int .i64) w2 A7 n has from by have := (Kd.R_reads' HHR.out).2.2; rw [hhl.out] at this; exact Kd.C_below this hb12)
    have HBw := Aside0.mk (below_step HB1.out hb12)
    have HBN := Aside0.mk (show w2.heap[w1.heap.size]? = some (.cells #[.int .i64 (n : Int)] 3 (0, 0)) from by rw [hw2]; exact heap_at _ rfl)
    have HBL := Aside0.mk (show w1.heap.size < w2.heap.size from by rw [hw2]; simp)
    rw [← hw2]
    generalize w1.heap.size = bn at HBN HBL ⊢
    clear hw2 hb12 HR HR1 HHR HB1 HFIT HHELD
    have hcn : w2.cell? ⟨bn, 0, none⟩ = some (.int .i64 (n : Int)) := cell_of_one HBN.out
    obtain ⟨N, hN⟩ : ∃ N : Nat, N = netSize n := ⟨_, rfl⟩
    have hNi : (N : Int) = 2 + 2 * (n : Int) + (n : Int) * (n : Int) := by rw [hN]; unfold netSize; push_cast; rfl
    have hNt : (2 + 2 * (n : Int) + (n : Int) * (n : Int)).toNat = N := by omega
    have hN170 : N ≤ 170 := by omega
    have hN2 : 2 ≤ N := by omega
    have HNI := Aside0.mk hNi
    have HNT := Aside0.mk hNt
    have HN0 := Aside0.mk (show (0 : Int) ≤ 2 + 2 * (n : Int) + (n : Int) * (n : Int) from by omega)
    have HN1 := Aside0.mk (show (2 + 2 * (n : Int) + (n : Int) * (n : Int)).toNat * 24 ≤ 281474976710656 from by omega)
    have HN := Aside0.mk hN
    clear hNi hNt hN
    go_wp2_with (first | ((with_reducible refine gate_dst (N := 42) rfl ?_); refine Kd.S_make KT (w0 := w2) w2.heap.size 31 rfl (N := 42) rfl 69 _ _ rfl (2 + 2 * (n : Int) + (n : Int) * (n : Int)) rfl rfl Try.underlying69 (.slice none 0 0) 24 info31 rfl (by decide) (by omega) [] (ok := fun k => w2.heap.size ≤ k) (okp := fun _ => False) ⟨_, rfl, Kd.R_nil _ _ _ _ _⟩ (fun _ hk => hk.elim) (Nat.le_refl _) HN0.out HN1.out (Below.refl _ _) (Nat.le_refl _) ?_; intro v13 w4 ho5 hb hg_ hnew_; clear hg_ hnew_; rw [HNT.out] at ho5; obtain ⟨A13, c13, e13⟩ : ∃ A c, v13 = .slice A N c := (by obtain ⟨A, c, e⟩ := Kd.S_slice ho5; exact ⟨A, c, by rw [e, List.length_replicate]⟩); subst e13; have HO := Aside0.mk ho5; have HB := Aside0.mk hb; clear hb ho5))
    clear hcn
    go_loopw [45] (fun i wr => ∃ k : Nat, k ≤ N ∧ i = .int .i64 k ∧ Aside0 (Kd.S KT 31 wr w2.heap.size (fun k => w2.heap.size ≤ k) (.slice A13 N c13) (List.replicate k (List.replicate N 0) ++ List.replicate (N - k) [])) ∧ Aside0 (Below w2.heap.size w2 wr)) (fun i _ => N - (intOf i).toNat)
    case atStart => exact ⟨0, by omega, rfl, ⟨by simpa using HO.out⟩, HB⟩
    case round =>
      clear HO HB
      obtain ⟨k, hk, rfl, HO, HB⟩ := hrel
      obtain ⟨wo, rfl⟩ : ∃ wo : World, wo = wr := ⟨_, rfl⟩
      by_cases hlt : k < N
      · obtain ⟨Z, hZ⟩ : ∃ Z : List Int, Z = List.replicate N 0 := ⟨_, rfl⟩
        obtain ⟨P, hP⟩ : ∃ P : List (List Int), P = List.replicate k (List.replicate N 0) ++ List.replicate (N - k) [] := ⟨_, rfl⟩
        have hPl : P.length = N := by rw [hP]; simp; omega
        have hst : Aside0 (P.set k Z = List.replicate (k + 1) (List.replicate N 0) ++ List.replicate (N - (k + 1)) []) := ⟨by
          rw [hP, List.set_append_right _ _ (by simp), List.length_replicate, Nat.sub_self, show N - k = (N - (k + 1)) + 1 from by omega, List.replicate_succ (n := N - (k + 1)), List.set_cons_zero, List.replicate_succ' (n := k), List.append_assoc, hZ]; rfl⟩
        have NZ := Aside0.mk hZ
        have hPl' := Aside0.mk hPl
        have h0 : (0 : Int) ≤ (N : Int) := by omega
        have HL := Aside0.mk (show ((N : Int)).toNat * 8 ≤ 281474976710656 from by omega)
        rw [← hP] at HO
        clear hP hZ hPl
        go_wp2_with (first | ((with_reducible refine gate_dst (N := 52) rfl ?_); refine Kd.R_make (Kd.int .i64) (w0 := wo) wo.heap.size 3 rfl (N := 52) rfl 31 _ _ rfl (N : Int) rfl rfl Try.underlying31 (.int .i64 0) 8 info3 rfl (by decide) (by omega) 0 (ok := fun _ => True) (okp := fun _ => True) rfl (fun _ hk => hk) trivial h0 HL.out (Below.refl _ _) (Nat.le_refl _) ?_; intro v52 w5 ho5 hb hg_ hnew_; clear hg_ hnew_; rw [Int.toNat_natCast, ← NZ.out] at ho5; obtain ⟨g, x, e, t1, t2, t3, t4, t5⟩ := tab_row HO.out hb ho5 HB.out.size (fun k hk => by have := HB.out.size; show w2.heap.size ≤ k; omega) (k : Int) (by omega) (by rw [hPl'.out]; omega); subst e; rw [Int.toNat_natCast] at t1 t2 t5; obtain ⟨A52, c52, e52⟩ := Kd.R_slice ho5; subst e52; have HO5 := Aside0.mk t5; have HB5 := Aside0.mk ((below_step HB.out hb).setCell (p := ⟨g, k, none⟩) t3 (.slice A52 Z.length c52)); clear hb ho5 t5))
        go_roundw
        case rel => exact ⟨k + 1, by omega, by go_num, ⟨by rw [← hst.out]; exact HO5.out⟩, HB5⟩
        case measure => simp [intOf]; omega
      · obtain rfl : k = N := by omega
        have hz : Aside0 (List.replicate k (List.replicate k (0 : Int)) ++ List.replicate (k - k) [] = zeroNet n) := ⟨by rw [Nat.sub_self, List.replicate_zero, List.append_nil, zeroNet, ← HN.out]⟩
        rw [hz.out] at HO
        obtain ⟨N, hNk⟩ : ∃ N, N = k := ⟨_, rfl⟩
        rw [← hNk] at HO HN HNI hN170 hN2 ⊢
        clear hNk HNT HN0 HN1 hz hk hlt
        obtain ⟨okg, hokg⟩ : ∃ okg : Nat → Prop, okg = fun k => w2.heap.size ≤ k ∧ k < wo.heap.size := ⟨_, rfl⟩
        have HSG := Aside0.mk (show Kd.S KT 31 wo w2.heap.size okg (.slice A13 N c13) (zeroNet n) from by rw [hokg]; exact Kd.S_mono (Kd.S_bound HO.out) (fun k hk => ⟨hk.1, hk.2.2.1⟩))
        have HOK := Aside0.mk (show ∀ k, okg k → w2.heap.size ≤ k ∧ k < wo.heap.size from by rw [hokg]; exact fun k hk => hk)
        have hA13 : ∃ x, A13 = some x := by
          obtain ⟨A', c', e, hle, hC⟩ := Kd.S_reads HO.out
          injection e with e1 e2 e3
          obtain ⟨ad', _, _, e9, _⟩ := at_L1 hC 0 (by omega) (by
            have h1 : (zeroNet n).length = netSize n := by simp [zeroNet]
            have h2 : 2 ≤ netSize n := by unfold netSize; omega
            omega)
          exact ⟨ad', by rw [e1, e9]⟩
        obtain ⟨A13, rfl⟩ := hA13
        have hg2 := Aside0.mk HB.out.size
        have HZQ := Aside0.mk (show Sqn N (zeroNet n) from by rw [HN.out]; exact zeroNet_sq n)
        clear hokg HO
        generalize hgg : wo.heap.size = hg1 at HOK hg2
        have hgl : Aside0 (hg1 ≤ wo.heap.size) := ⟨by omega⟩
        clear hgg
        have hcn : wo.cell? ⟨bn, 0, none⟩ = some (.int .i64 (n : Int)) := (HB.out.cell (p := ⟨bn, 0, none⟩) HBL.out).trans (cell_of_one HBN.out)
        go_upto_block 2 with (fail)
        clear hcn
        have HBD := Aside0.mk (show Bld w2 wo N okg hg1 A13 c13 (.slice none 0 0) (zeroNet n) [] from ⟨HSG.out, HZQ.out, Kd.R_nil _ _ _ _ _, HB.out, hgl.out, HOK.out⟩)
        clear HSG HZQ hgl HB
        go_cut [15, 16] (fun v15 v16 wc => ∃ (st : List (List Int) × Int × List S29), v15 = .int .i64 st.2.1 ∧ Aside0 (st = sFto n has q t (zeroNet n, 0, []) n) ∧ Aside0 (0 ≤ st.2.1 ∧ st.2.1 ≤ 1125899906842624) ∧ Aside0 (st.2.2.length ≤ 2000) ∧ Aside0 (Bld w2 wc N okg hg1 A13 c13 v16 st.1 st.2.2))
        case first =>
          have hcn : wo.cell? ⟨bn, 0, none⟩ = some (.int .i64 (n : Int)) := (HBD.out.be.cell (p := ⟨bn, 0, none⟩) HBL.out).trans (cell_of_one HBN.out)
          go_wp2_with fail
          clear hcn
          go_loopw [15, 16, 56] (fun v15 v16 v56 wr => ∃ (f : Nat) (G : List (List Int)) (over : Int) (ord : List S29), v56 = .int .i64 f ∧ v15 = .int .i64 over ∧ Aside0 (f ≤ n) ∧ Aside0 (sFto n has q t (zeroNet n, 0, []) f = (G, over, ord)) ∧ Aside0 (0 ≤ over ∧ over ≤ f * 13194139533312) ∧ Aside0 (ord.length ≤ f * 144) ∧ Aside0 (Bld w2 wr N okg hg1 A13 c13 v16 G ord)) (fun _ _ v56 _ => n - (intOf v56).toNat)
          case atStart => exact ⟨0, zeroNet n, 0, [], rfl, rfl, ⟨by omega⟩, ⟨rfl⟩, ⟨by omega⟩, ⟨by simp⟩, HBD⟩
          case round =>
            clear HBD
            obtain ⟨f, G, over, ord, rfl, rfl, hfn, hE, hOB, hOL, HB⟩ := hrel
            obtain ⟨wp, rfl⟩ : ∃ wo : World, wo = wr := ⟨_, rfl⟩
            have hfn' := hfn.out
            have hob := hOB.out
            by_cases hlt : f < n
            · have hlb : decide ((f : Int) < (n : Int)) = true := decide_eq_true (by omega)
              have hFI := (by omega : (0 : Int) ≤ f)
              have hFN := (by omega : (f : Int) < n)
              have hbh := HHB.out f hFI hFN
              have hbq := HQB.out f hFI hFN
              obtain ⟨adh, e, hxh⟩ := Kd.at_int (Kd.C_below HH2.out HB.out.be) f hFI hFN
              cases e
              obtain ⟨adq, e, hxq⟩ := Kd.at_int (Kd.C_below HQ2.out HB.out.be) f hFI hFN
              cases e
              rw [Int.toNat_natCast] at hxh hxq
              by_cases hle : rd has f ≤ rd q f
              · have hleb : decide (rd has f ≤ rd q f) = true := decide_eq_true hle
                have hE2 : Aside0 (sFto n has q t (zeroNet n, 0, []) (f + 1) = (upd G (nodeT n f) 1 (wrap64 (rd q f - rd has f)), over, ord)) := ⟨by rw [sFto, hE.out, sF, if_pos hle]⟩
                rw [show wrap64 (rd q f - rd has f) = rd q f - rd has f from by unfold wrap64; omega] at hE2
                have hxt := nodeT_lt n f hFI hFN
                rw [← HN.out] at hxt
                obtain ⟨x, hx⟩ : ∃ x, x = nodeT n f := ⟨_, rfl⟩
                rw [← hx] at hxt hE2
                obtain ⟨x0, x1⟩ := hxt
                have HX := Aside0.mk (show x = 2 + (n : Int) + f from hx)
                clear hx hle
                go_wp2_with fail
                go_quiet (fail)
                go_upto_region 20 with (fail)
                have hB5 := Aside0.mk ((HB.out.drewN nq).drew)
                refine wp_region_still_tail 17 (by kernel_rfl) (by kernel_rfl) ?_
                change wpStill _ _ (wp.drewN nq).drew (fun a' => wpList _ _ _ _ a' (wp.drewN nq).drew) _ _
                generalize (wp.drewN nq).drew = w5 at hB5 ⊢
                have hcn : w5.cell? ⟨bn, 0, none⟩ = some (.int .i64 (n : Int)) := (hB5.out.be.cell (p := ⟨bn, 0, none⟩) HBL.out).trans (cell_of_one HBN.out)
                obtain ⟨adh', e, hxh'⟩ := Kd.at_int (Kd.C_below HH2.out hB5.out.be) f hFI hFN
                cases e
                obtain ⟨adq', e, hxq'⟩ := Kd.at_int (Kd.C_below HQ2.out hB5.out.be) f hFI hFN
                cases e
                rw [Int.toNat_natCast] at hxh' hxq'
                obtain ⟨g, d, s0, s1, s2, s5⟩ := hB5.out.at x 1 (by omega) (by omega) (by omega) (by omega)
                rw [show (1 : Int).toNat = 1 from rfl] at s1 s2 s5
                have hN1 : 1 < N := by omega
                have hN1i : (1 : Int) < (N : Int) := by omega
                have S5 := Aside0.mk s5
                clear s5
                simp only [List.take_succ_cons, List.take_zero, List.drop_succ_cons, List.drop_zero]
                repeat still_step
                still_call (node48 (f : Int) x n bn _ hcn HX.out (by omega) hFI hFN)
                repeat still_step
                refine wpStill_nil ?_
                clear hcn
                go_wp2_with fail
                go_roundw
                case rel => exact ⟨f + 1, _, over, ord, by go_num, rfl, ⟨by omega⟩, hE2, ⟨by push_cast; omega⟩, ⟨by have := hOL.out; omega⟩, ⟨S5.out _⟩⟩
                case measure => simp [intOf]; omega
              · have hleb : decide (rd has f ≤ rd q f) = false := decide_eq_false hle
                have hE2 : Aside0 (sFto n has q t (zeroNet n, 0, []) (f + 1) = ((sOto n has q t f (upd G 0 (nodeH f) (rd has f - rd q f), ord) n).1, over + (rd has f - rd q f), (sOto n has q t f (upd G 0 (nodeH f) (rd has f - rd q f), ord) n).2)) := ⟨by
                  rw [sFto, hE.out, sF, if_neg hle]
                  rw [show wrap64 (rd has f - rd q f) = rd has f - rd q f from by unfold wrap64; omega, show wrap64 (over + (rd has f - rd q f)) = over + (rd has f - rd q f) from by unfold wrap64; omega]⟩
                have hxt := nodeH_lt n f hFI hFN
                rw [← HN.out] at hxt
                obtain ⟨x, hx⟩ : ∃ x, x = nodeH f := ⟨_, rfl⟩
                rw [← hx] at hxt hE2
                obtain ⟨x0, x1⟩ := hxt
                have HX := Aside0.mk (show x = 2 + (f : Int) from hx)
                have HXX := Aside0.mk hx
                have hgt : rd q f < rd has f := by omega
                clear hx hle
                have hwr : IntKind.i64.wrap (rd has f - rd q f) = rd has f - rd q f := IntWalk.i64_in _ (by omega)
                have hwr2 : IntKind.i64.wrap (over + (rd has f - rd q f)) = over + (rd has f - rd q f) := IntWalk.i64_in _ (by omega)
                go_wp2_with fail
                go_quiet (fail)
                go_wp2_with fail
                obtain ⟨nqa, hnqa⟩ : ∃ x, x = nq := ⟨_, rfl⟩
                rw [← hnqa]
                clear hnqa
                go_quiet (fail)
                clear hwr2
                go_upto_region 22 with (fail)
                have hB5 := Aside0.mk (((HB.out.drewN nqa).drewN nq).drew)
                refine wp_region_still_tail 17 (by kernel_rfl) (by kernel_rfl) ?_
                change wpStill _ _ ((wp.drewN nqa).drewN nq).drew (fun a' => wpList _ _ _ _ a' ((wp.drewN nqa).drewN nq).drew) _ _
                generalize ((wp.drewN nqa).drewN nq).drew = w5 at hB5 ⊢
                have hcn : w5.cell? ⟨bn, 0, none⟩ = some (.int .i64 (n : Int)) := (hB5.out.be.cell (p := ⟨bn, 0, none⟩) HBL.out).trans (cell_of_one HBN.out)
                obtain ⟨adh', e, hxh'⟩ := Kd.at_int (Kd.C_below HH2.out hB5.out.be) f hFI hFN
                cases e
                obtain ⟨adq', e, hxq'⟩ := Kd.at_int (Kd.C_below HQ2.out hB5.out.be) f hFI hFN
                cases e
                rw [Int.toNat_natCast] at hxh' hxq'
                obtain ⟨g, d, s0, s1, s2, s5⟩ := hB5.out.at 0 x (by omega) (by omega) (by omega) (by omega)
                rw [show (0 : Int).toNat = 0 from rfl, Go.Addr.add_zero'] at s0
                have S5 := Aside0.mk s5
                have h0N : 0 < N := by omega
                have h0Ni : (0 : Int) < (N : Int) := by omega
                clear s5
                simp only [List.take_succ_cons, List.take_zero, List.drop_succ_cons, List.drop_zero]
                repeat still_step
                still_call (node47 (f : Int) x _ HX.out hFI (by omega))
                repeat still_step
                refine wpStill_nil ?_
                clear hcn hwr
                obtain ⟨s0f, hs0f⟩ : ∃ s, s = (upd G 0 x (rd has f - rd q f), ord) := ⟨_, rfl⟩
                rw [← hs0f] at hE2
                have HS0 := Aside0.mk hs0f
                obtain ⟨w6, hw6⟩ : ∃ w6, w6 = w5.setCell ⟨g, x.toNat, none⟩ (.int .i64 (rd has f - rd q f)) := ⟨_, rfl⟩
                have HB6 := Aside0.mk (show Bld w2 w6 N okg hg1 A13 c13 u16 s0f.1 s0f.2 from by rw [hw6, hs0f]; exact S5.out _)
                go_upto_region 23 with (fail)
                rw [← hw6]
                clear hs0f hw6 S5 s0 s1 s2 hB5 HB hxh' hxq' hxh hxq
                have hcn : w6.cell? ⟨bn, 0, none⟩ = some (.int .i64 (n : Int)) := (HB6.out.be.cell (p := ⟨bn, 0, none⟩) HBL.out).trans (cell_of_one HBN.out)
                go_wp2_with fail
                clear hcn
                have hln0 : Aside0 (s0f.2.length ≤ (f : Nat) * 144 + 0 * 12) := ⟨by rw [HS0.out]; simpa using hOL.out⟩
                go_loopw [16, 114] (fun v16 v114 wr => ∃ (o : Nat) (s : List (List Int) × List S29), v114 = .int .i64 o ∧ Aside0 (o ≤ n) ∧ Aside0 (sOto n has q t f s0f o = s) ∧ Aside0 (s.2.length ≤ f * 144 + o * 12) ∧ Aside0 (Bld w2 wr N okg hg1 A13 c13 v16 s.1 s.2)) (fun _ v114 _ => n - (intOf v114).toNat)
                case atStart => exact ⟨0, s0f, rfl, ⟨by omega⟩, ⟨rfl⟩, hln0, HB6⟩
                case round =>
                  clear HB6
                  obtain ⟨o, s, rfl, hon, hEo, hlo, HB3⟩ := hrel
                  obtain ⟨wx, rfl⟩ : ∃ wo : World, wo = wr := ⟨_, rfl⟩
                  have hon' := hon.out
                  by_cases hlt2 : o < n
                  · have hlb2 : decide ((o : Int) < (n : Int)) = true := decide_eq_true (by omega)
                    have hOI := (by omega : (0 : Int) ≤ o)
                    have hON := (by omega : (o : Int) < n)
                    have hyt := nodeP_lt n f o hFI hFN hOI hON
                    rw [← HN.out] at hyt
                    obtain ⟨y, hy⟩ : ∃ y, y = nodeP n f o := ⟨_, rfl⟩
                    rw [← hy] at hyt
                    obtain ⟨y0, y1⟩ := hyt
                    have HY := Aside0.mk (show y = 2 + 2 * (n : Int) + (f : Int) * n + o from hy)
                    have HYY := Aside0.mk hy
                    have y00 : 0 ≤ y := by omega
                    clear hy
                    go_wp2_with fail
                    have hB5 := Aside0.mk (HB3.out.drew)
                    refine wp_region_still_tail 18 (by kernel_rfl) (by kernel_rfl) ?_
                    change wpStill _ _ (wx).drew (fun a' => wpList _ _ _ _ a' (wx).drew) _ _
                    generalize (wx).drew = w5 at hB5 ⊢
                    have hcn : w5.cell? ⟨bn, 0, none⟩ = some (.int .i64 (n : Int)) := (hB5.out.be.cell (p := ⟨bn, 0, none⟩) HBL.out).trans (cell_of_one HBN.out)
                    obtain ⟨adt', A2', c2', e, hxt', _, hi'⟩ := at_L1 (Kd.C_below HT2.out hB5.out.be) f hFI hFN
                    cases e
                    have hrl' := HG.out.1.2 f hFI hFN
                    obtain ⟨adr', e, hxr'⟩ := Kd.at_int hi' o hOI (by rw [hrl']; exact hON)
                    cases e
                    rw [hrl'] at hxt'
                    rw [Int.toNat_natCast] at hxt' hxr'
                    clear hrl' hi'
                    obtain ⟨g, d, s0, s1, s2, s5⟩ := hB5.out.at x y (by omega) (by omega) (by omega) (by omega)
                    have S5 := Aside0.mk s5
                    clear s5
                    simp only [List.take_succ_cons, List.take_zero, List.drop_succ_cons, List.drop_zero]
                    repeat still_step
                    still_call (node47 (f : Int) x _ HX.out hFI (by omega))
                    repeat still_step
                    still_call (node49 (f : Int) (o : Int) y n bn _ hcn HY.out (by omega) hFI hFN hOI hON)
                    repeat still_step
                    refine wpStill_nil ?_
                    clear hcn
                    obtain ⟨s1f, hs1f⟩ : ∃ s', s' = (upd s.1 x y (get t f o), s.2) := ⟨_, rfl⟩
                    have hEo2 : Aside0 (sOto n has q t f s0f (o + 1) = sTto n has q f o s1f n) := ⟨by rw [sOto, hEo.out, sO, hs1f, HXX.out, HYY.out]⟩
                    obtain ⟨w7, hw7⟩ : ∃ w7, w7 = w5.setCell ⟨g, y.toNat, none⟩ (.int .i64 (rd (rd_L1 t f) o)) := ⟨_, rfl⟩
                    have HB7 := Aside0.mk (show Bld w2 w7 N okg hg1 A13 c13 u16 s1f.1 s1f.2 from by rw [hw7, hs1f]; exact S5.out _)
                    have hln1 : Aside0 (s1f.2.length ≤ (f : Nat) * 144 + (o : Nat) * 12 + 0) := ⟨by rw [hs1f]; exact hlo.out⟩
                    go_upto_region 27 with (fail)
                    rw [← hw7]
                    clear hs1f hw7 S5 s0 s1 s2 hB5 HB3 hxt' hxr'
                    have hcn : w7.cell? ⟨bn, 0, none⟩ = some (.int .i64 (n : Int)) := (HB7.out.be.cell (p := ⟨bn, 0, none⟩) HBL.out).trans (cell_of_one HBN.out)
                    go_wp2_with fail
                    clear hcn
                    go_loopw [16, 136] (fun v16 v136 wr => ∃ (k : Nat) (s' : List (List Int) × List S29), v136 = .int .i64 k ∧ Aside0 (k ≤ n) ∧ Aside0 (sTto n has q f o s1f k = s') ∧ Aside0 (s'.2.length ≤ f * 144 + o * 12 + k) ∧ Aside0 (Bld w2 wr N okg hg1 A13 c13 v16 s'.1 s'.2)) (fun _ v136 _ => n - (intOf v136).toNat)
                    case atStart => exact ⟨0, s1f, rfl, ⟨by omega⟩, ⟨rfl⟩, hln1, HB7⟩
                    case round =>
                      clear HB7
                      obtain ⟨k, s', rfl, hkn, hEk, hlk, HB4⟩ := hrel
                      obtain ⟨wz, rfl⟩ : ∃ wo : World, wo = wr := ⟨_, rfl⟩
                      have hkn' := hkn.out
                      by_cases hlt3 : k < n
                      · have hlb3 : decide ((k : Int) < (n : Int)) = true := decide_eq_true (by omega)
                        have hKI := (by omega : (0 : Int) ≤ k)
                        have hKN := (by omega : (k : Int) < n)
                        obtain ⟨adh, e, hxh⟩ := Kd.at_int (Kd.C_below HH2.out HB4.out.be) k hKI hKN
                        cases e
                        obtain ⟨adq, e, hxq⟩ := Kd.at_int (Kd.C_below HQ2.out HB4.out.be) k hKI hKN
                        cases e
                        rw [Int.toNat_natCast] at hxh hxq
                        have done5 : ∀ b, sTto n has q f o s1f (k + 1) = b → (fun _ => True) b := fun _ _ => trivial
                        by_cases h1 : (o : Int) = f
                        · have hb1 : ((o : Int) != (f : Int)) = false := by simpa using h1
                          have hb1' : ((o : Int) == (f : Int)) = true := by simpa using h1
                          clear done5
                          have hE5 : Aside0 (sTto n has q f o s1f (k + 1) = s') := ⟨by rw [sTto, hEk.out, sT, if_neg (by omega)]⟩
                          go_wp2_with fail
                          go_quiet (fail)
                          go_wp2_with fail
                          go_roundw
                          case rel => exact ⟨k + 1, s', by go_num, ⟨by omega⟩, hE5, ⟨by have := hlk.out; omega⟩, ⟨HB4.out.drewN _⟩⟩
                          case measure => simp [intOf]; omega
                        have hb1 : ((o : Int) != (f : Int)) = true := by simpa using h1
                        have hb1' : ((o : Int) == (f : Int)) = false := by simpa using h1
                        by_cases h2 : (k : Int) = f
                        · have hb2 : ((k : Int) != (f : Int)) = false := by simpa using h2
                          have hb2' : ((k : Int) == (f : Int)) = true := by simpa using h2
                          clear done5
                          have hE5 : Aside0 (sTto n has q f o s1f (k + 1) = s') := ⟨by rw [sTto, hEk.out, sT, if_neg (by omega)]⟩
                          go_wp2_with fail
                          go_quiet (fail)
                          go_wp2_with fail
                          go_roundw
                          case rel => exact ⟨k + 1, s', by go_num, ⟨by omega⟩, hE5, ⟨by have := hlk.out; omega⟩, ⟨HB4.out.drewN _⟩⟩
                          case measure => simp [intOf]; omega
                        have hb2 : ((k : Int) != (f : Int)) = true := by simpa using h2
                        have hb2' : ((k : Int) == (f : Int)) = false := by simpa using h2
                        by_cases h3 : (k : Int) = o
                        · have hb3 : ((k : Int) != (o : Int)) = false := by simpa using h3
                          have hb3' : ((k : Int) == (o : Int)) = true := by simpa using h3
                          clear done5
                          have hE5 : Aside0 (sTto n has q f o s1f (k + 1) = s') := ⟨by rw [sTto, hEk.out, sT, if_neg (by omega)]⟩
                          go_wp2_with fail
                          go_quiet (fail)
                          go_wp2_with fail
                          go_roundw
                          case rel => exact ⟨k + 1, s', by go_num, ⟨by omega⟩, hE5, ⟨by have := hlk.out; omega⟩, ⟨HB4.out.drewN _⟩⟩
                          case measure => simp [intOf]; omega
                        have hb3 : ((k : Int) != (o : Int)) = true := by simpa using h3
                        have hb3' : ((k : Int) == (o : Int)) = false := by simpa using h3
                        by_cases h4 : rd q k < rd has k
                        · have hb4 : decide (rd has k ≤ rd q k) = false := decide_eq_false (by omega)
                          clear done5
                          have hE5 : Aside0 (sTto n has q f o s1f (k + 1) = s') := ⟨by rw [sTto, hEk.out, sT, if_neg (by omega)]⟩
                          go_wp2_with fail
                          go_quiet (fail)
                          go_wp2_with fail
                          go_roundw
                          case rel => exact ⟨k + 1, s', by go_num, ⟨by omega⟩, hE5, ⟨by have := hlk.out; omega⟩, ⟨HB4.out.drewN _⟩⟩
                          case measure => simp [intOf]; omega
                        have hb4 : decide (rd has k ≤ rd q k) = true := decide_eq_true (by omega)
                        clear done5
                        have hzt := nodeT_lt n k hKI hKN
                        rw [← HN.out] at hzt
                        obtain ⟨z, hz⟩ : ∃ z, z = nodeT n k := ⟨_, rfl⟩
                        have hE5 : Aside0 (sTto n has q f o s1f (k + 1) = (upd s'.1 y z 1125899906842624, s'.2 ++ [⟨f, k, o, 0⟩])) := ⟨by rw [sTto, hEk.out, sT, if_pos (by omega), hz, HYY.out]; rfl⟩
                        rw [← hz] at hzt
                        obtain ⟨z0, z1⟩ := hzt
                        have HZ := Aside0.mk (show z = 2 + (n : Int) + (k : Int) from hz)
                        clear hz h4 h3 h2 h1
                        go_wp2_with fail
                        go_quiet (fail)
                        clear hb1 hb1' hb2 hb2' hb3 hb3' hb4
                        go_upto_region 31 with (fail)
                        have hB5 := Aside0.mk ((HB4.out.drewN nq).drew)
                        refine wp_region_still_tail 11 (by kernel_rfl) (by kernel_rfl) ?_
                        change wpStill _ _ (wz.drewN nq).drew (fun a' => wpList _ _ _ _ a' (wz.drewN nq).drew) _ _
                        generalize (wz.drewN nq).drew = w5 at hB5 ⊢
                        have hcn : w5.cell? ⟨bn, 0, none⟩ = some (.int .i64 (n : Int)) := (hB5.out.be.cell (p := ⟨bn, 0, none⟩) HBL.out).trans (cell_of_one HBN.out)
                        obtain ⟨g, d, s0, s1, s2, s5⟩ := hB5.out.at y z (by omega) (by omega) (by omega) (by omega)
                        have S5 := Aside0.mk s5
                        clear s5
                        simp only [List.take_succ_cons, List.take_zero, List.drop_succ_cons, List.drop_zero]
                        repeat still_step
                        still_call (node49 (f : Int) (o : Int) y n bn _ hcn HY.out (by omega) hFI hFN hOI hON)
                        repeat still_step
                        still_call (node48 (k : Int) z n bn _ hcn HZ.out (by omega) hKI hKN)
                        repeat still_step
                        refine wpStill_nil ?_
                        clear hcn
                        obtain ⟨w8, hw8⟩ : ∃ w8, w8 = w5.setCell ⟨g, z.toNat, none⟩ (.int .i64 1125899906842624) := ⟨_, rfl⟩
                        have HB8 := Aside0.mk (show Bld w2 w8 N okg hg1 A13 c13 u16 (upd s'.1 y z 1125899906842624) s'.2 from by rw [hw8]; exact S5.out _)
                        go_upto_region 32 with (fail)
                        rw [← hw8]
                        clear hw8 S5 s0 s1 s2 hB5 HB4
                        have hlk' := hlk.out
                        have hlk2 : s'.2.length ≤ 2000 := by omega
                        have HFK := Aside0.mk hlk2
                        clear hlk' hlk2
                        have HZ8 := HB8.out.be.size
                        have HG8 := HB8.out.hg
                        go_wp2_with (first | ((with_reducible refine gate_builtin (b := .append) (xs := #[.tmp 174, .tmp 179]) rfl ?_); at_builtin; refine Kd.R_append k29 (w0 := w2) w2.heap.size rfl (.tmp 174) (.tmp 179) 30 29 (.agg #[(.int .i64 0), (.int .i64 0), (.int .i64 0), (.int .i64 0)]) 32 rfl Try.underlying30 info29 rfl (by decide) (by omega) u16 s'.2 (⟨f, k, o, 0⟩ : S29) [.int .i64 f, .int .i64 k, .int .i64 o, .int .i64 0] (fun k => hg1 ≤ k) (fun _ => False) rfl rfl ?aP (fun _ hk => hk.elim) ?aF ?aO ?aB ?aS ?aL ?_; (case aP => exact k29_mkM _ _ _ (⟨f, k, o, 0⟩ : S29)); (case aB => exact HB8.out.be); (case aF => exact (fun j hj => by show hg1 ≤ j; omega)); (case aO => exact HB8.out.ro); (case aS => exact HZ8); (case aL => have := HFK.out; omega); intro v17 w9 ho hb hg hat; have HB9 := Aside0.mk (HB8.out.append hg hb ho); clear ho hb hg hat))
                        go_roundw
                        case rel => exact ⟨k + 1, _, by go_num, ⟨by omega⟩, hE5, ⟨by have := hlk.out; simp; omega⟩, HB9⟩
                        case measure => simp [intOf]; omega
                      · have hlb3 : decide ((k : Int) < (n : Int)) = false := decide_eq_false (by omega)
                        obtain rfl : k = n := by omega
                        go_wp2_with fail
                        go_roundw
                        case rel => exact ⟨o + 1, s', by go_num, ⟨by omega⟩, ⟨by rw [hEo2.out, hEk.out]⟩, ⟨by have := hlk.out; omega⟩, HB4⟩
                        case measure => simp [intOf]; omega
                  · have hlb2 : decide ((o : Int) < (n : Int)) = false := decide_eq_false (by omega)
                    obtain rfl : o = n := by omega
                    go_wp2_with fail
                    go_roundw
                    case rel => exact ⟨f + 1, s.1, over + (rd has f - rd q f), s.2, by go_num, rfl, ⟨by omega⟩, ⟨by rw [hE2.out, hEo.out]⟩, ⟨by push_cast; omega⟩, ⟨by have := hlo.out; omega⟩, HB3⟩
                    case measure => simp [intOf]; omega
            · have hlb : decide ((f : Int) < (n : Int)) = false := decide_eq_false (by omega)
              obtain rfl : f = n := by omega
              go_wp2_with fail
              go_meet
              case rel => exact ⟨(G, over, ord), rfl, ⟨hE.out.symm⟩, ⟨by show 0 ≤ over ∧ over ≤ 1125899906842624; omega⟩, ⟨by show ord.length ≤ 2000; have := hOL.out; omega⟩, HB⟩
        case rest =>
          clear HBD
          obtain ⟨⟨G, over, ord⟩, rfl, hst, hov, hOLN, HB⟩ := hcut
          rw [← hst.out] at hf
          have HRG := Aside0.mk (show ∀ m ∈ ord, okM n m from by
            have := sFto_range (n := n) (has := has) (q := q) (t := t) (s := (zeroNet n, 0, [])) (by simp) n (Nat.le_refl n)
            rw [← hst.out] at this
            exact this)
          have HOL := Aside0.mk (show (if (flowG 0 1 over over.toNat G 0).2 < over then (([], 7) : List S29 × Int) else ((settleGo n ord ((flowG 0 1 over over.toNat G 0).1, [])).2, 0)) = settleOut t q from hf.out.symm)
          dsimp only at hov hOLN HB ⊢
          have hov' := hov.out
          have hOLN' := hOLN.out
          clear hf hst hov
          obtain ⟨r, hr⟩ : ∃ r, r = flowG 0 1 over over.toNat G 0 := ⟨_, rfl⟩
          have HSQ1 := Aside0.mk (show Sqn N r.1 from by rw [hr]; exact flowG_sq 0 1 over over.toNat G 0 HB.out.sq)
          have HFL := Aside0.mk (flow_any N (some A13) c13 G 0 1 over wc w2.heap.size okg HB.out.sg HB.out.sq (by omega) (by omega) (by omega) (by omega) (by omega) (by omega) (by omega))
          rw [← hr] at HOL HFL
          clear hr
          by_cases hlt : r.2 < over
          · have hlb : decide (r.2 < over) = true := decide_eq_true hlt
            rw [if_pos hlt] at HOL
            clear hlt
            go_wp2_with (go_at_call 50; refine HFL.out.mono ?_; rintro e w' ⟨rfl, hS, hF⟩; have HF := Aside0.mk hF; clear hS hF)
            go_ret2
            exact ⟨_, by rw [← HOL.out]; rfl, by rw [← HOL.out]; exact Kd.R_nil _ _ _ _ _, below_step HBw.out (HF.out.below HB.out.be HB.out.be.size (fun k hk => (HOK.out k hk).1))⟩
          · have hlb : decide (r.2 < over) = false := decide_eq_false hlt
            rw [if_neg hlt] at HOL
            clear hlt
            obtain ⟨A16, c16, e16⟩ := Kd.R_slice HB.out.ro
            subst e16
            go_upto_region 38 with (go_at_call 50; refine HFL.out.mono ?_; rintro e w' ⟨rfl, hS, hF⟩; have HS := Aside0.mk hS; have HF := Aside0.mk hF; clear hS hF)
            obtain ⟨wq, rfl⟩ : ∃ wo : World, wo = w' := ⟨_, rfl⟩
            obtain ⟨hg9, hhg9⟩ : ∃ h, h = wq.heap.size := ⟨_, rfl⟩
            have HM := Aside0.mk (show Mvs w2 wq N okg (fun k => hg1 ≤ k ∧ k < hg9) (fun k => hg9 ≤ k) hg9 A13 c13 (.slice A16 ord.length c16) (.slice none 0 0) r.1 ord [] from ⟨HS.out, HSQ1.out, by
              have h1 := Kd.R_step (w1 := wq) HB.out.ro (fun k ho hk => HF.out.block k hk (fun e => by have := (HOK.out k e).2; omega))
              exact Kd.R_mono (Kd.R_bound h1) (fun k hk => ⟨hk.1, by rw [hhg9]; exact hk.2.2.1⟩), Kd.R_nil _ _ _ _ _, HF.out.below HB.out.be HB.out.be.size (fun k hk => (HOK.out k hk).1), by omega, by have h1 := HB.out.hg; have h2 := HF.out.size; have h3 := hg2.out; omega, fun k hk => ⟨(HOK.out k hk).1, by have h1 := HB.out.hg; have h2 := HF.out.size; have h3 := (HOK.out k hk).2; omega⟩, fun k hk => ⟨fun e => by have := (HOK.out k e).2; omega, hk.2⟩, fun _ hk => hk⟩)
            clear HS HF HSQ1 HB hhg9 HFL
            go_wp2_with fail
            go_loopw [20, 193] (fun v20 v193 wr => ∃ (k : Nat) (s : List (List Int) × List S29), v193 = .int .i64 k ∧ Aside0 (k ≤ ord.length) ∧ Aside0 (s.2.length ≤ k) ∧ Aside0 (settleGo n ord (r.1, []) = settleGo n (ord.drop k) s) ∧ Aside0 (Mvs w2 wr N okg (fun k => hg1 ≤ k ∧ k < hg9) (fun k => hg9 ≤ k) hg9 A13 c13 (.slice A16 ord.length c16) v20 s.1 ord s.2)) (fun _ v193 _ => ord.length - (intOf v193).toNat)
            case atStart => exact ⟨0, (r.1, []), rfl, ⟨by omega⟩, ⟨by simp⟩, ⟨rfl⟩, HM⟩
            case round =>
              clear HM
              obtain ⟨k, s, rfl, hkl, hsl, hE, HM⟩ := hrel
              obtain ⟨wo, rfl⟩ : ∃ wo : World, wo = wr := ⟨_, rfl⟩
              have hkl' := hkl.out
              by_cases hlt : k < ord.length
              · have hlb : decide ((k : Int) < (ord.length : Int)) = true := decide_eq_true (by omega)
                have hKI := (by omega : (0 : Int) ≤ k)
                have hKN := (by omega : (k : Int) < ord.length)
                obtain ⟨ad, e, x0, x1, x2, x3⟩ := at_T29 (Kd.R_reads' HM.out.rq).2.2 k hKI hKN
                cases e
                rw [Int.toNat_natCast] at x0 x1 x2 x3
                have hmem : rd_T29 ord k = ord[k] := by simp [rd_T29, List.getD_eq_getElem?_getD, List.getElem?_eq_getElem hlt]
                have hrg := HRG.out ord[k] (List.getElem_mem hlt)
                have hE2 : Aside0 (settleGo n ord (r.1, []) = settleGo n (ord.drop (k + 1)) (settleStep n s ord[k])) := ⟨by rw [hE.out, List.drop_eq_getElem_cons hlt, settleGo]⟩
                rw [hmem] at x0 x1 x2 x3
                obtain ⟨m, hm⟩ : ∃ m, m = ord[k] := ⟨_, rfl⟩
                rw [← hm] at hrg hE2 x0 x1 x2 x3
                clear hmem hm
                obtain ⟨a0, a1, a2, a3⟩ := m
                obtain ⟨⟨p0, q0⟩, ⟨p1, q1⟩, ⟨p2, q2⟩⟩ := hrg
                simp only at p0 q0 p1 q1 p2 q2 x0 x1 x2 x3
                obtain ⟨x, hx⟩ : ∃ x, x = nodeP n a0 a2 := ⟨_, rfl⟩
                obtain ⟨y, hy⟩ : ∃ y, y = nodeT n a1 := ⟨_, rfl⟩
                have hxl := nodeP_lt n a0 a2 p0 q0 p2 q2
                have hyl := nodeT_lt n a1 p1 q1
                rw [← HN.out, ← hx] at hxl
                rw [← HN.out, ← hy] at hyl
                obtain ⟨xl0, xl1⟩ := hxl
                obtain ⟨yl0, yl1⟩ := hyl
                have xl00 : 0 ≤ x := by omega
                have hstep : Aside0 (settleStep n s ⟨a0, a1, a2, a3⟩ = ((flowG y x unlim unlim.toNat (upd (upd s.1 x y 0) y x 0) 0).1, if 0 < wrap64 (get s.1 y x + (flowG y x unlim unlim.toNat (upd (upd s.1 x y 0) y x 0) 0).2) then s.2 ++ [⟨a0, a1, a2, wrap64 (get s.1 y x + (flowG y x unlim unlim.toNat (upd (upd s.1 x y 0) y x 0) 0).2)⟩] else s.2)) := ⟨by rw [hx, hy]; rfl⟩
                have HX := Aside0.mk (show x = 2 + 2 * (n : Int) + a0 * n + a2 from hx)
                have HY := Aside0.mk (show y = 2 + (n : Int) + a1 from hy)
                clear hx hy
                go_upto_region 42 with (fail)
                generalize hW2 : wo.alloc (.cells #[.int .i64 a0, .int .i64 a1, .int .i64 a2, .int .i64 a3] 29) = W2
                have BM := Aside0.mk (show Bx W2 wo.heap.size a0 a1 a2 a3 from by rw [← hW2]; exact heap_at _ rfl)
                have HM2 := Aside0.mk (show Mvs w2 W2 N okg (fun k => hg1 ≤ k ∧ k < hg9) (fun k => hg9 ≤ k ∧ k ≠ wo.heap.size) hg9 A13 c13 (.slice (some ad) ord.length c16) u20 s.1 ord s.2 from by rw [← hW2]; exact HM.out.alloc _)
                have hbm : Aside0 (hg9 ≤ wo.heap.size) := ⟨HM.out.hg⟩
                generalize wo.heap.size = bm at BM HM2 hbm ⊢
                clear hW2 x0 x1 x2 x3 HM
                obtain ⟨m0, m1, m2, m3, m4⟩ := BM.out.cells
                have hcn : W2.cell? ⟨bn, 0, none⟩ = some (.int .i64 (n : Int)) := (HM2.out.be.cell (p := ⟨bn, 0, none⟩) HBL.out).trans (cell_of_one HBN.out)
                go_quiet (first | (go_at_call 49; refine Calls.quiet_of_same (node49 a0 a2 x n bn _ hcn HX.out (by omega) p0 q0 p2 q2)) | (go_at_call 48; refine Calls.quiet_of_same (node48 a1 y n bn _ hcn HY.out (by omega) p1 q1)))
                clear hcn m0 m1 m2 m3 m4
                have HM3 := Aside0.mk (HM2.out.drewN nq)
                have BM3 := Aside0.mk (show Bx (W2.drewN nq) bm a0 a1 a2 a3 from BM.out)
                generalize W2.drewN nq = W3 at HM3 BM3 ⊢
                clear HM2 BM
                obtain ⟨m0, m1, m2, m3, m4⟩ := BM3.out.cells
                obtain ⟨g, d, s0, s1, s2, s3, s5⟩ := HM3.out.at y x (by omega) (by omega) (by omega) (by omega)
                clear s5
                go_upto_region 44 with (fail)
                clear s0 s1 s2 s3 m0 m1 m2 m3 m4
                have HM4 := Aside0.mk (HM3.out.box hbm.out (fun k hk => hk.2) 3 (.int .i64 (get s.1 y x)))
                have BM4 := Aside0.mk (BM3.out.put (get s.1 y x))
                generalize W3.setCell ⟨bm, 3, none⟩ (.int .i64 (get s.1 y x)) = W4 at HM4 BM4 ⊢
                clear HM3 BM3
                obtain ⟨g, d, s0, s1, s2, s3, s5⟩ := HM4.out.at x y (by omega) (by omega) (by omega) (by omega)
                obtain ⟨h, d1, t0, t1, t2, t3, t5⟩ := HM4.out.at y x (by omega) (by omega) (by omega) (by omega)
                obtain ⟨h2, d2, r0, r1, r2, r3, r5⟩ := (s5 0).at y x (by omega) (by omega) (by omega) (by omega)
                have hne : (⟨g, y.toNat, none⟩ : Addr) ≠ A13.add y.toNat := fun e => by rw [e, t0] at s1; cases s1
                have hh : h2 = h ∧ d2 = d1 := by
                  have := r0
                  rw [World.cell?_setCell_other (h := hne), t0] at this
                  injection this with e
                  injection e with e1 e2 e3
                  injection e1 with e1
                  injection e1 with e1
                  exact ⟨e1.symm, e3.symm⟩
                obtain ⟨rfl, rfl⟩ := hh
                have HM5 := Aside0.mk (r5 0)
                have BM5 := Aside0.mk ((BM4.out.far (show g ≠ bm from by have := hbm.out; omega) y.toNat (.int .i64 0)).far (show h2 ≠ bm from by have := hbm.out; omega) x.toNat (.int .i64 0))
                clear s5 t5 r5 hne
                go_region
                go_upto_region 45 with (fail)
                have HM6 := Aside0.mk HM5.out.drew
                have BM6 := Aside0.mk BM5.out.drew
                generalize World.drew _ = W6 at HM6 BM6 ⊢
                clear HM5 BM5 HM4 BM4 s0 s1 s2 s3 t0 t1 t2 t3 r0 r1 r2 r3
                obtain ⟨r2, hr2⟩ : ∃ r2, r2 = flowG y x unlim unlim.toNat (upd (upd s.1 x y 0) y x 0) 0 := ⟨_, rfl⟩
                have hr2' : r2 = flowG y x 1125899906842624 (1125899906842624 : Int).toNat (upd (upd s.1 x y 0) y x 0) 0 := hr2
                have HSQ2 := Aside0.mk (show Sqn N r2.1 from by rw [hr2]; exact flowG_sq _ _ _ _ _ _ HM6.out.sq)
                have HFL := Aside0.mk (fun (W : World) (hm : Kd.S KT 31 W w2.heap.size okg (.slice (some A13) N c13) (upd (upd s.1 x y 0) y x 0)) => flow_any N (some A13) c13 (upd (upd s.1 x y 0) y x 0) y x 1125899906842624 W w2.heap.size okg hm HM6.out.sq (by omega) (by omega) (by omega) (by omega) (by omega) (by omega) (by omega))
                rw [← hr2'] at HFL
                rw [← hr2] at hstep
                clear hr2 hr2'
                obtain ⟨b, hb⟩ : ∃ b, b = wrap64 (get s.1 y x + r2.2) := ⟨_, rfl⟩
                rw [← hb] at hstep
                have hbw : Aside0 (IntKind.i64.wrap (get s.1 y x + r2.2) = b) := ⟨by rw [hb]; exact IntWalk.i64_left _⟩
                have hnbm : Aside0 (¬ okg bm) := ⟨fun e => by have h1 := (HM6.out.hok bm e).2; have h2 := hbm.out; omega⟩
                go_cut [232] (fun v232 wc => ∃ r : Int, v232 = .int .i64 r ∧ Aside0 (Mvs w2 wc N okg (fun k => hg1 ≤ k ∧ k < hg9) (fun k => hg9 ≤ k ∧ k ≠ bm) hg9 A13 c13 (.slice (some ad) ord.length c16) u20 r2.1 ord s.2) ∧ Aside0 (Bx wc bm a0 a1 a2 b))
                case first =>
                  have HM7 := Aside0.mk HM6.out.drew
                  have BM7 := Aside0.mk BM6.out.drew
                  obtain ⟨m0, m1, m2, m3, m4⟩ := BM6.out.cells
                  go_region_with (go_at_call 50; refine (HFL.out _ HM7.out.sg).mono ?_; rintro e w' ⟨rfl, hS, hF⟩; have HM8 := Aside0.mk (HM7.out.fr hF hS HSQ2.out); have BM8 := Aside0.mk (BM7.out.fr hF hnbm.out); clear hS hF; obtain ⟨n0, n1, n2, n3, n4⟩ := BM8.out.cells)
                  all_goals (go_wp2_with fail; go_meet; case rel => exact ⟨_, rfl, by first | exact ⟨HM8.out.box hbm.out (fun k hk => hk.2) 3 _⟩ | exact ⟨(HM8.out.box hbm.out (fun k hk => hk.2) 3 _).drew⟩, by rw [hbw.out]; first | exact ⟨BM8.out.put _⟩ | exact ⟨(BM8.out.put _).drew⟩⟩)
                case rest =>
                  clear HM6 BM6 HFL HSQ2
                  obtain ⟨r9, rfl, HM, BM⟩ := hcut
                  obtain ⟨m0, m1, m2, m3, m4⟩ := BM.out.cells
                  by_cases hb0 : 0 < b
                  · have hbb : decide (0 < b) = true := decide_eq_true hb0
                    rw [if_pos hb0] at hstep
                    rw [hstep.out] at hE2
                    clear hb0 hb hstep
                    have HS2 := Aside0.mk (show s.2.length ≤ 2000 from by have := hsl.out; omega)
                    have HZ8 := HM.out.be.size
                    have HG8 := HM.out.hg
                    have HBM8 := lt_of_block BM.out
                    have hbm' := hbm.out
                    go_wp2_with (first | ((with_reducible refine gate_builtin (b := .append) (xs := #[.tmp 238, .tmp 240]) rfl ?_); at_builtin; refine Kd.R_append k29 (w0 := w2) w2.heap.size rfl (.tmp 238) (.tmp 240) 30 29 (.agg #[(.int .i64 0), (.int .i64 0), (.int .i64 0), (.int .i64 0)]) 32 rfl Try.underlying30 info29 rfl (by decide) (by omega) u20 s.2 (⟨a0, a1, a2, b⟩ : S29) [.int .i64 a0, .int .i64 a1, .int .i64 a2, .int .i64 b] (fun k => hg9 ≤ k ∧ k ≠ bm) (fun _ => False) rfl rfl ?aP (fun _ hk => hk.elim) ?aF ?aO ?aB ?aS ?aL ?_; (case aP => exact k29_mkM _ _ _ (⟨a0, a1, a2, b⟩ : S29)); (case aB => exact HM.out.be); (case aF => exact (fun j hj => by show hg9 ≤ j ∧ j ≠ bm; omega)); (case aO => exact HM.out.ro); (case aS => exact HZ8); (case aL => have := HS2.out; omega); intro v17 w9 ho hb hg hat; have HM9 := Aside0.mk (HM.out.append hg hb ho).weak; clear ho hb hg hat))
                    go_roundw
                    case rel => exact ⟨k + 1, (r2.1, s.2 ++ [⟨a0, a1, a2, b⟩]), by go_num, ⟨by omega⟩, ⟨by have := hsl.out; rw [List.length_append, List.length_singleton]; omega⟩, hE2, HM9⟩
                    case measure => simp [intOf]; omega
                  · have hbb : decide (0 < b) = false := decide_eq_false hb0
                    rw [if_neg hb0] at hstep
                    rw [hstep.out] at hE2
                    clear hb0 hb hstep
                    go_wp2_with fail
                    go_roundw
                    case rel => exact ⟨k + 1, (r2.1, s.2), by go_num, ⟨by omega⟩, ⟨by have := hsl.out; show s.2.length ≤ k + 1; omega⟩, hE2, ⟨HM.out.weak⟩⟩
                    case measure => simp [intOf]; omega
              · have hlb : decide ((k : Int) < (ord.length : Int)) = false := decide_eq_false (by omega)
                have hfin : Aside0 ((s.2, 0) = settleOut t q) := ⟨by rw [← HOL.out, hE.out, List.drop_of_length_le (by omega), settleGo]⟩
                go_wp2_with fail
                go_ret2
                exact ⟨_, by rw [← hfin.out]; rfl, by rw [← hfin.out]; exact Kd.R_mono (Kd.R_lower HM.out.ro HBw.out.size) (fun _ _ => trivial), below_step HBw.out HM.out.be⟩

end Go.Proofs.Ytdljbmgknhbceaa.A
