import Derived.Test.YtdljbmgknhbceaaM2
import Derived.IntWalk
import Derived.StillTailTactics
namespace Go.Proofs.Ytdljbmgknhbceaa.A
open Go.RowKit Go.Proofs.YtdljbmgknhbceaaW.PrintWords Go.Proofs.YtdljbmgknhbceaaW.PrintLast Go.Proofs.YtdljbmgknhbceaaW.PrintMore Go.Proofs.Ytdljbmgknhbceaa.Q
attribute [local go_sem] max2_int min2_int max_two min_two max_three min_three max_four min_four
set_option linter.unusedVariables false
set_option linter.unusedSimpArgs false

/-- Blocks that are not ok stay as they are. -/
structure Fr (ok : Nat → Prop) (W w' : World) : Prop where
  os : w'.os = W.os
  tape : w'.tape = W.tape
  output : w'.output = W.output
  size : W.heap.size ≤ w'.heap.size
  block : ∀ k, k < W.heap.size → ¬ ok k → w'.heap[k]? = W.heap[k]?
theorem Fr.of_below {ok : Nat → Prop} {W w' : World} (h : Below W.heap.size W w') : Fr ok W w' := ⟨h.os, h.tape, h.output, h.size, fun k hk _ => h.block k hk⟩
theorem Fr.trans {ok : Nat → Prop} {a b c : World} (h : Fr ok a b) (k : Fr ok b c) : Fr ok a c :=
  ⟨k.os.trans h.os, k.tape.trans h.tape, k.output.trans h.output, Nat.le_trans h.size k.size, fun i hi hn => (k.block i (Nat.lt_of_lt_of_le hi h.size) hn).trans (h.block i hi hn)⟩
theorem Fr.setCell {ok : Nat → Prop} {W w' : World} (h : Fr ok W w') {p : Addr} (hp : ok p.block ∨ W.heap.size ≤ p.block) (u : Value) : Fr ok W (w'.setCell p u) :=
  ⟨h.os, h.tape, h.output, by simpa [World.setCell] using h.size, fun k hk hn => by
    rw [Below.heap_setCell _ _ _ _ (by rintro rfl; rcases hp with hp | hp; exact hn hp; omega)]
    exact h.block k hk hn⟩
theorem Fr.drew {ok : Nat → Prop} {W w' : World} (h : Fr ok W w') : Fr ok W w'.drew := ⟨h.os, h.tape, h.output, h.size, h.block⟩
theorem Fr.drewN {ok : Nat → Prop} {W w' : World} (h : Fr ok W w') (n : Nat) : Fr ok W (w'.drewN n) := ⟨h.os, h.tape, h.output, h.size, h.block⟩
theorem Fr.below {ok : Nat → Prop} {base : Nat} {w0 W w' : World} (h : Fr ok W w') (hb : Below base w0 W) (hbase : base ≤ W.heap.size) (hok : ∀ k, ok k → base ≤ k) : Below base w0 w' :=
  hb.trans ⟨h.os, h.tape, h.output, h.size, fun k hk => h.block k (by omega) (fun hn => by have := hok k hn; omega)⟩

set_option maxHeartbeats 8000000 in
set_option maxRecDepth 100000 in
theorem augment_any (n : Nat) (A : Option Addr) (c : Nat) (g : List (List Int)) (s t l : Int) (W : World) (base : Nat) (ok : Nat → Prop) (hs : Kd.S KT 31 W base ok (.slice A n c) g) (hq : Sqn n g) (hn : n ≤ 1000)
    (s0 : 0 ≤ s) (s1 : s < n) (t0 : 0 ≤ t) (t1 : t < n) :
    Calls Try.prog 67 #[.slice A n c, .int .i64 s, .int .i64 t, .int .i64 l] W fun e w' => e = .returned (.int .i64 (augG g s t l).2) ∧ Kd.S KT 31 w' base ok (.slice A n c) (augG g s t l).1 ∧ Fr ok W w' := by
  obtain ⟨okg, hokg⟩ : ∃ okg : Nat → Prop, okg = fun k => ok k ∧ k < W.heap.size := ⟨_, rfl⟩
  have HS := Aside0.mk (show Kd.S KT 31 W base okg (.slice A n c) g from by rw [hokg]; exact Kd.S_mono (Kd.S_bound hs) (fun k hk => ⟨hk.1, hk.2.2.1⟩))
  have HOK := Aside0.mk (show ∀ k, okg k → ok k ∧ k < W.heap.size from by rw [hokg]; exact fun k hk => hk)
  have HQ := Aside0.mk hq
  have hgl := Aside0.mk hq.1
  obtain ⟨Z, hZ⟩ : ∃ Z : List Int, Z = List.replicate n 0 := ⟨_, rfl⟩
  have hZl : Aside0 (Z.length = n) := ⟨by rw [hZ]; simp⟩
  have NZ := Aside0.mk hZ
  have h0 : (0 : Int) ≤ (n : Int) := by omega
  have HL := Aside0.mk (show ((n : Int)).toNat * 8 ≤ 281474976710656 from by omega)
  clear hs hokg hq hZ
  go_enter Try.func67, Try.ntmps67
  go_wp2_with (first | ((with_reducible refine gate_dst (N := 19) rfl ?_); refine Kd.R_make (Kd.int .i64) (w0 := W) W.heap.size 3 rfl (N := 19) rfl 31 _ _ rfl (n : Int) rfl rfl Try.underlying31 (.int .i64 0) 8 info3 rfl (by decide) (by omega) 0 (ok := fun _ => True) (okp := fun _ => True) rfl (fun _ hk => hk) trivial h0 HL.out (Below.refl _ _) (Nat.le_refl _) ?_; intro v163 w4 ho5 hb hg_ hnew_; clear hg_; rw [Int.toNat_natCast, ← NZ.out] at ho5; obtain ⟨A9, c9, e9⟩ : ∃ A c, v163 = .slice A n c := (by obtain ⟨A, c, e⟩ := Kd.R_slice ho5; exact ⟨A, c, by rw [e, hZl.out]⟩); subst e9; obtain ⟨gb, hgbo, hgb0⟩ := hnew_; have HO := Aside0.mk (Kd.R_mono (Kd.R_tight rfl ho5) (ok' := fun k => k = gb) (fun k hk => by rw [hgbo] at hk; injection hk)); have HB := Aside0.mk hb; have HGB := Aside0.mk hgbo; clear hb ho5))
  go_loopw [22] (fun i wr => ∃ k : Nat, k ≤ n ∧ i = .int .i64 k ∧ Aside0 (Kd.R (Kd.int .i64) 3 wr W.heap.size (fun k => k = gb) (.slice A9 n c9) (part (fun _ => -1) Z k)) ∧ Aside0 (Below W.heap.size W wr)) (fun i _ => n - (intOf i).toNat)
  case atStart => exact ⟨0, by omega, rfl, ⟨by rw [part_zero]; exact HO.out⟩, HB⟩
  case round =>
    clear HO HB
    obtain ⟨k, hk, rfl, HO, HB⟩ := hrel
    obtain ⟨wb, rfl⟩ : ∃ wo : World, wo = wr := ⟨_, rfl⟩
    by_cases hlt : k < n
    · obtain ⟨P, hP⟩ : ∃ P, P = part (fun _ => -1) Z k := ⟨_, rfl⟩
      have hPl : Aside0 (P.length = n) := ⟨by rw [hP, part_length _ _ _ (by rw [hZl.out]; omega), hZl.out]⟩
      have hst : Aside0 (P.set k (-1) = part (fun _ => -1) Z (k + 1)) := ⟨by rw [hP]; exact part_step (fun _ => (-1 : Int)) Z k (by rw [hZl.out]; exact hlt)⟩
      rw [← hP] at HO
      clear hP
      obtain ⟨g1, e, hc1, hf1, hbg, hput⟩ := row_at HO.out k (by omega) (by rw [hPl.out]; omega)
      cases e
      rw [Int.toNat_natCast] at hc1 hf1
      have HP := Aside0.mk hput
      clear hput
      go_wp2
      go_roundw
      case rel => exact ⟨k + 1, by omega, by go_num, ⟨by rw [← hst.out]; exact (HP.out _).1⟩, ⟨HB.out.setCell hbg _⟩⟩
      case measure => simp [intOf]; omega
    · have hf : Aside0 (part (fun _ => -1) Z k = List.replicate n (-1)) := ⟨by
        obtain rfl : k = Z.length := by rw [hZl.out]; omega
        rw [part_full, hZl.out]
        apply List.ext_getElem
        · simp
        · intro i h1 h2; simp⟩
      have HO2 := Aside0.mk (show Kd.R (Kd.int .i64) 3 wb W.heap.size (fun k => k = gb) (.slice A9 n c9) (List.replicate n (-1)) from by have := HO.out; rwa [hf.out] at this)
      obtain ⟨g1, e, hc1, hf1, hbg, hput⟩ := row_at HO2.out s s0 (by simpa using s1)
      cases e
      obtain rfl : g1 = gb := by have := HGB.out; simp [Value.ownBlock] at this; exact this
      have HP := Aside0.mk hput
      have HI := Aside0.mk (BI.init g n s s0 s1)
      clear hput HO hf
      go_upto_block 2 with (fail)
      obtain ⟨w1, hw1⟩ : ∃ w1, w1 = (wb.setCell ⟨g1, s.toNat, none⟩ (.int .i64 s)).alloc (.cells #[.int .i64 s] 3) := ⟨_, rfl⟩
      have hszb : (wb.setCell ⟨g1, s.toNat, none⟩ (.int .i64 s)).heap.size = wb.heap.size := by simp [World.setCell]
      have hgw : g1 < wb.heap.size := World.block_lt_of_cell? wb _ hc1
      have HQU := Aside0.mk (show Kd.Q (Kd.int .i64) 3 w1 W.heap.size (fun q => q ≠ g1) (.slice (some ⟨wb.heap.size, 0, none⟩) ([s] : List Int).length 1) [s] from by
        have ho := own_lit (wb.setCell ⟨g1, s.toNat, none⟩ (.int .i64 s)) W.heap.size 3 .i64 [s] (by rw [hszb]; exact HB.out.size) (by simp)
        rw [hw1]
        rw [hszb] at ho
        exact Kd.Q_of_R (Kd.R_of_own ho (fun k hk => by simp [Value.ownBlock] at hk; omega)))
      have HBE := Aside0.mk (show Kd.R (Kd.int .i64) 3 w1 W.heap.size (fun k => k = g1) (.slice (some ⟨g1, 0, none⟩) n c9) (initB n s) from by rw [hw1]; exact Kd.R_alloc (HP.out s).1 _)
      have HB1 := Aside0.mk (show Below W.heap.size W w1 from by rw [hw1]; exact (HB.out.setCell hbg _).alloc (by rw [hszb]; exact HB.out.size) _)
      rw [← hw1]
      clear hw1 hszb hgw
      have HCg := Aside0.mk (show Kd.C KT W A n g from by have := (Kd.S_reads' HS.out).2.2; rwa [hgl.out] at this)
      go_cut [11] (fun v11 wc => Aside0 (Kd.R (Kd.int .i64) 3 wc W.heap.size (fun k => k = g1) (.slice (some ⟨g1, 0, none⟩) n c9) (before g s t)) ∧ Aside0 (Below W.heap.size W wc))
      case first =>
        go_wp2_with fail
        go_loopg [11] (n + 1) (fun f v11 wr => ∃ (b q : List Int) (Aq : Option Addr) (cq : Nat), v11 = .slice Aq q.length cq ∧ Aside0 (before g s t = bfs g t f (b, q)) ∧ Aside0 (unv b + q.length < f ∧ f ≤ n + 1) ∧ Aside0 (BI g n s b q (fun _ _ => True)) ∧ Aside0 (Kd.R (Kd.int .i64) 3 wr W.heap.size (fun k => k = g1) (.slice (some ⟨g1, 0, none⟩) n c9) b) ∧ Aside0 (Kd.Q (Kd.int .i64) 3 wr W.heap.size (fun q => q ≠ g1) (.slice Aq q.length cq) q) ∧ Aside0 (Below W.heap.size W wr))
        case atStart =>
          refine ⟨initB n s, [s], _, _, rfl, ⟨by rw [before, hgl.out]⟩, ⟨?_⟩, HI, HBE, HQU, HB1⟩
          have := unv_set (List.replicate n (-1)) s.toNat s (by simp; omega) (by simp) s0
          rw [unv_replicate] at this
          refine ⟨?_, Nat.le_refl _⟩
          show unv (initB n s) + 1 < n + 1
          unfold initB
          omega
        case round =>
          clear HBE HQU HB1 HI HO2 HP hc1 hf1 HB
          obtain ⟨b, q, Aq, cq, rfl, hE, hU, hBI, HR, HQ2, HB⟩ := hrel
          cases gk with
          | zero => exact absurd hU.out.1 (by omega)
          | succ f1 =>
            obtain ⟨wo, rfl⟩ : ∃ wo : World, wo = wr := ⟨_, rfl⟩
            obtain ⟨g2, e, hct, _, _, _⟩ := row_at HR.out t t0 (by rw [hBI.out.len]; exact t1)
            injection e with e
            injection e with e1 _ _
            subst e1
            cases q with
            | nil =>
              have hfin : Aside0 (before g s t = b) := ⟨by rw [hE.out, bfs]⟩
              go_wp2_with fail
              go_meet
              case rel => exact ⟨⟨by rw [hfin.out]; exact HR.out⟩, HB⟩
            | cons x q =>
              by_cases hbt : rd b t < 0
              · have hbtb : decide (rd b t < 0) = true := decide_eq_true hbt
                have hE2 : Aside0 (before g s t = bfs g t f1 (scanTo x (rd_L1 g x) (b, q) n)) := ⟨by rw [hE.out, bfs]; simp only [if_pos hbt]; rw [hgl.out]⟩
                have hxi := hBI.out.qin x List.mem_cons_self
                have hscan := fun kk hkk => (hBI.out.scan s0 s1 kk hkk)
                have HSC := Aside0.mk hscan
                have HBI2 := Aside0.mk (hBI.out.scanned s0 s1)
                obtain ⟨x0, x1, xb⟩ := hxi
                obtain ⟨adq, e, hxq⟩ := Kd.at_int (Kd.Q_reads' HQ2.out).2.2 0 (by omega) (by simp)
                cases e
                rw [show (0 : Int).toNat = 0 from rfl, Go.Addr.add_zero', show rd (x :: q) 0 = x from rfl] at hxq
                obtain ⟨i0, hi0, _, hsz0, _⟩ := info_parts info3
                have hcut := cut_from (P := Try.prog) 31 3 .i64 Try.underlying31 hi0 1 hsz0 (some adq) (q.length + 1) cq 1 (by omega) (by omega)
                have hdr := Kd.Q_drop (k := 1) HQ2.out (by simp)
                have hcq1 : 1 ≤ cq := by have := (Kd.Q_reads' HQ2.out).2.1; simp at this; omega
                rw [show (1 : Int).toNat = 1 from rfl] at hcut
                obtain ⟨Aq1, hAq1⟩ : ∃ A1, A1 = (if cq = 1 then some adq else (some adq : Option Addr).map (·.add (1 * 1))) := ⟨_, rfl⟩
                obtain ⟨cq1, hcq⟩ : ∃ c1, c1 = cq - 1 := ⟨_, rfl⟩
                have HQ3 := Aside0.mk (show Kd.Q (Kd.int .i64) 3 wo W.heap.size (fun q => q ≠ g1) (.slice Aq1 q.length cq1) q from by rw [hAq1, hcq]; exact hdr)
                rw [← hAq1, ← hcq, show q.length + 1 - 1 = q.length from by omega] at hcut
                obtain ⟨adg, A1, c1, e, hxW, _, hiW⟩ := at_L1 HCg.out x x0 x1
                cases e
                have hxg := (HB.out.cell (World.block_lt_of_cell? W _ hxW)).trans hxW
                have hrl : (rd_L1 g x).length = n := HQ.out.2 x x0 x1
                obtain ⟨row, hrow⟩ : ∃ row, row = rd_L1 g x := ⟨_, rfl⟩
                rw [← hrow] at hxg hiW hrl hE2 HSC HBI2
                rw [hrl] at hxg hiW
                have HRL := Aside0.mk hrl
                have HIW := Aside0.mk hiW
                clear hrow hrl hiW hxW hdr hAq1 hcq hi0 hsz0 hbt hscan hE
                have hxn : x < (n : Int) := x1
                go_wp2_with fail
                go_loopw [11, 55] (fun v11 v55 wr => ∃ (k : Nat) (b' q' : List Int) (Aq' : Option Addr) (cq' : Nat), v55 = .int .i64 k ∧ v11 = .slice Aq' q'.length cq' ∧ Aside0 (k ≤ n) ∧ Aside0 (scanTo x row (b, q) k = (b', q')) ∧ Aside0 (Kd.R (Kd.int .i64) 3 wr W.heap.size (fun k => k = g1) (.slice (some ⟨g1, 0, none⟩) n c9) b') ∧ Aside0 (Kd.Q (Kd.int .i64) 3 wr W.heap.size (fun q => q ≠ g1) (.slice Aq' q'.length cq') q') ∧ Aside0 (Below W.heap.size W wr)) (fun _ v55 _ => n - (intOf v55).toNat)
                case atStart => exact ⟨0, b, q, Aq1, cq1, rfl, rfl, ⟨by omega⟩, ⟨rfl⟩, HR, HQ3, HB⟩
                case round =>
                  clear HQ3 HR HB HQ2 hxg hcut hxq hct
                  obtain ⟨k, b', q', Aq', cq', rfl, rfl, hk, hsc, HR, HQ2, HB⟩ := hrel
                  obtain ⟨wi, rfl⟩ : ∃ wo : World, wo = wr := ⟨_, rfl⟩
                  have hkn := hk.out
                  by_cases hlt : k < n
                  · have hlb : decide ((k : Int) < (n : Int)) = true := decide_eq_true (by omega)
                    obtain ⟨adr, e, hxr⟩ := Kd.at_int (Kd.C_below HIW.out HB.out) k (by omega) (by omega)
                    cases e
                    have hs1' := HSC.out k hkn
                    rw [hsc.out] at hs1'
                    have hb'l : b'.length = n := hs1'.1.len
                    obtain ⟨g3, e, hcy, hfy, hbgy, hput⟩ := row_at HR.out k (by omega) (by rw [hb'l]; omega)
                    injection e with e
                    injection e with e1 _ _
                    subst e1
                    have HP3 := Aside0.mk hput
                    rw [Int.toNat_natCast] at hxr hcy hfy HP3
                    have hstep : Aside0 (scanTo x row (b, q) (k + 1) = scanStep x row (b', q') k) := ⟨by rw [scanTo, hsc.out]⟩
                    have hq'n : q'.length ≤ 2000 := by
                      have h3 := hs1'.2.2
                      have h4 := hU.out
                      simp at h4
                      have h5 : unv b' + q'.length = unv b + q.length := h3
                      omega
                    clear hs1' hput
                    by_cases hc : 0 < rd row k
                    · have hcb : decide (0 < rd row k) = true := decide_eq_true hc
                      by_cases hy : rd b' k < 0
                      · have hyb : decide (rd b' k < 0) = true := decide_eq_true hy
                        have hst2 : Aside0 (scanTo x row (b, q) (k + 1) = (b'.set k x, q' ++ [(k : Int)])) := ⟨by rw [hstep.out, scanStep]; simp only [if_pos (And.intro hc hy)]⟩
                        have hgi : g1 < wi.heap.size := World.block_lt_of_cell? wi _ hcy
                        have HB5 := Aside0.mk (HB.out.setCell (p := ⟨g1, k, none⟩) hbgy (.int .i64 x))
                        have HQ5 := Aside0.mk (Kd.Q_far (p := ⟨g1, k, none⟩) HQ2.out (fun k hk => hk) (.int .i64 x))
                        have HR5 := Aside0.mk (HP3.out x).1
                        clear hc hy
                        obtain ⟨w5, hw5⟩ : ∃ w5, w5 = wi.setCell ⟨g1, k, none⟩ (.int .i64 x) := ⟨_, rfl⟩
                        rw [← hw5] at HB5 HQ5 HR5
                        have hsz5 : g1 < w5.heap.size := by rw [hw5]; simpa [World.setCell] using hgi
                        have HSZ := Aside0.mk hsz5
                        have HW5 := Aside0.mk hw5
                        clear hw5
                        go_upto_region 17 with (fail)
                        rw [← HW5.out]
                        go_wp2_with (first | ((with_reducible refine gate_builtin (b := .append) (xs := #[.tmp 73, .tmp 75]) rfl ?_); at_builtin; refine Kd.Q_append (Kd.int .i64) (w0 := W) W.heap.size rfl (.tmp 73) (.tmp 75) 31 3 (.int .i64 0) 8 rfl Try.underlying31 info3 rfl (by decide) (by omega) (.slice Aq' q'.length cq') q' (k : Int) [.int .i64 (k : Int)] (fun q => q ≠ g1) (fun _ => False) rfl rfl ?aP (fun _ hk => hk.elim) ?aF ?aO ?aB ?aS ?aL ?_; (case aP => exact rfl); (case aB => exact HB5.out); (case aF => exact (fun k hk => by have := HSZ.out; show k ≠ g1; omega)); (case aO => exact HQ5.out); (case aS => exact HB5.out.size); (case aL => omega); intro v1 w6 ho hb hg hat; obtain ⟨Ao, co, eo⟩ : ∃ A c, v1 = .slice A (q' ++ [(k : Int)]).length c := (by obtain ⟨A, c, e, _⟩ := Kd.Q_slice ho; exact ⟨A, c, e⟩); subst eo; have HR6 := Aside0.mk (Kd.R_grown HR5.out hg (fun k hk e => by have hk' : k = g1 := hk; rw [hk'] at e; exact HQ5.out.1 _ e.symm rfl)); have HQ6 := Aside0.mk ho; have HB6 := Aside0.mk hb; clear ho hb hg hat))
                        go_roundw
                        case rel => exact ⟨k + 1, b'.set k x, q' ++ [(k : Int)], Ao, co, by go_num, by simp, ⟨by omega⟩, hst2, HR6, HQ6, HB6⟩
                        case measure => simp [intOf]; omega
                      · have hyb : decide (rd b' k < 0) = false := decide_eq_false hy
                        have hst2 : Aside0 (scanTo x row (b, q) (k + 1) = (b', q')) := ⟨by rw [hstep.out, scanStep]; simp only [if_neg (fun h : 0 < rd row k ∧ rd b' k < 0 => hy h.2)]⟩
                        clear hc hy
                        go_wp2_with fail
                        go_roundw
                        case rel => exact ⟨k + 1, b', q', Aq', cq', by go_num, rfl, ⟨by omega⟩, hst2, HR, HQ2, HB⟩
                        case measure => simp [intOf]; omega
                    · have hcb : decide (0 < rd row k) = false := decide_eq_false hc
                      have hst2 : Aside0 (scanTo x row (b, q) (k + 1) = (b', q')) := ⟨by rw [hstep.out, scanStep]; simp only [if_neg (fun h : 0 < rd row k ∧ rd b' k < 0 => hc h.1)]⟩
                      clear hc
                      go_wp2_with fail
                      go_roundw
                      case rel => exact ⟨k + 1, b', q', Aq', cq', by go_num, rfl, ⟨by omega⟩, hst2, HR, HQ2, HB⟩
                      case measure => simp [intOf]; omega
                  · have hlb : decide ((k : Int) < (n : Int)) = false := decide_eq_false (by omega)
                    obtain rfl : k = n := by omega
                    have hsc2 := (HSC.out k (Nat.le_refl _)).2.2
                    rw [hsc.out] at hE2 HBI2 hsc2
                    go_wp2_with fail
                    go_roundg f1
                    case measure => omega
                    case rel => exact ⟨b', q', Aq', cq', rfl, hE2, ⟨by have := hU.out; simp at this hsc2; omega⟩, HBI2, HR, HQ2, HB⟩
              · have hbtb : decide (rd b t < 0) = false := decide_eq_false hbt
                have hfin : Aside0 (before g s t = b) := ⟨by rw [hE.out, bfs]; simp only [if_neg hbt]⟩
                go_wp2_with fail
                go_meet
                case rel => exact ⟨⟨by rw [hfin.out]; exact HR.out⟩, HB⟩
      case rest =>
        clear HBE HQU HB1 HI HO2 HP hc1 hf1 HB
        obtain ⟨HR, HB⟩ := hcut
        have hend := bfs_end (t := t) hgl.out s0 s1 (n + 1) (initB n s) [s] (BI.init g n s s0 s1) (by
          have := unv_set (List.replicate n (-1)) s.toNat s (by simp; omega) (by simp) s0
          rw [unv_replicate] at this
          show unv (initB n s) + 1 < n + 1
          unfold initB
          omega)
        have hbef : before g s t = bfs g t (n + 1) (initB n s, [s]) := by rw [before, hgl.out]
        rw [← hbef] at hend
        have haug : Aside0 (augG g s t l = if rd (before g s t) t < 0 then (g, 0) else (push g (lim g (trail (before g s t) s n t) l) (trail (before g s t) s n t), lim g (trail (before g s t) s n t) l)) := ⟨by rw [augG, hgl.out]⟩
        obtain ⟨b, hb⟩ : ∃ b, b = before g s t := ⟨_, rfl⟩
        rw [← hb] at hend haug HR
        clear hbef hb
        obtain ⟨q', hBI, _⟩ := hend
        have hbl := Aside0.mk hBI.len
        obtain ⟨rk, m, hm, htree⟩ := hBI.tree
        have HT := Aside0.mk htree
        have HRG := Aside0.mk hBI.rng
        obtain ⟨g2, e, hct, _, _, _⟩ := row_at HR.out t t0 (by rw [hbl.out]; exact t1)
        injection e with e
        injection e with e1 _ _
        subst e1
        have hmn : m ≤ n := by omega
        clear htree hBI hm
        by_cases hbt : rd b t < 0
        · have hbtb : decide (rd b t < 0) = true := decide_eq_true hbt
          have hfin : Aside0 (augG g s t l = (g, 0)) := ⟨by rw [haug.out, if_pos hbt]⟩
          clear hbt
          go_wp2_with fail
          go_ret
          exact ⟨by rw [hfin.out]; rfl, by rw [hfin.out]; exact Kd.S_mono (Kd.S_below HS.out HB.out) (fun k hk => (HOK.out k hk).1), Fr.of_below HB.out⟩
        · have hbtb : decide (rd b t < 0) = false := decide_eq_false hbt
          obtain ⟨es, hes⟩ : ∃ es, es = trail b s n t := ⟨_, rfl⟩
          have hfin : Aside0 (augG g s t l = (push g (lim g es l) es, lim g es l)) := ⟨by rw [haug.out, if_neg hbt, hes]⟩
          have hes' := Aside0.mk hes
          have htv : 0 ≤ rd b t := by omega
          have htr := (HT.out t t0 t1 htv).1
          clear hbt haug hes
          go_wp2_with fail
          go_loopg [3, 15] n (fun f v3 v15 wr => ∃ (l' y : Int), v3 = .int .i64 l' ∧ v15 = .int .i64 y ∧ Aside0 (lim g es l = lim g (trail b s f y) l') ∧ Aside0 (0 ≤ y ∧ y < n ∧ 0 ≤ rd b y ∧ rk y < f) ∧ Aside0 (wr = wc))
          case atStart => exact ⟨l, t, rfl, rfl, ⟨by rw [hes'.out]⟩, ⟨⟨t0, t1, htv, by omega⟩⟩, ⟨rfl⟩⟩
          case round =>
            clear hct
            obtain ⟨l', y, rfl, rfl, hE, hY, hw⟩ := hrel
            obtain rfl := hw.out
            obtain ⟨y0, y1, yv, yr⟩ := hY.out
            cases gk with
            | zero => exact absurd yr (by omega)
            | succ f1 =>
              by_cases hys : y = s
              · have hysb : (y != s) = false := bne_eq_false_iff_eq.2 hys
                have hL : Aside0 (lim g es l = l') := ⟨by rw [hE.out, trail, if_pos hys]; rfl⟩
                clear hys hw
                obtain ⟨d, hd⟩ : ∃ d, d = lim g es l := ⟨_, rfl⟩
                rw [← hd] at hL hfin
                obtain rfl : l' = d := hL.out.symm
                clear hL hE hd yr y0 y1 yv hY
                have HS1 := Aside0.mk (Kd.S_below HS.out HB.out)
                have HF1 := Aside0.mk (Fr.of_below (ok := ok) HB.out)
                obtain ⟨wc, rfl⟩ : ∃ wo : World, wo = wr := ⟨_, rfl⟩
                go_wp2_with fail
                go_loopg [16] n (fun f v16 wr => ∃ (y : Int) (G : List (List Int)), v16 = .int .i64 y ∧ Aside0 (push g l' es = push G l' (trail b s f y)) ∧ Aside0 (0 ≤ y ∧ y < n ∧ 0 ≤ rd b y ∧ rk y < f) ∧ Aside0 (Sqn n G) ∧ Aside0 (Kd.S KT 31 wr base okg (.slice A n c) G) ∧ Aside0 (Kd.R (Kd.int .i64) 3 wr W.heap.size (fun k => k = g1) (.slice (some ⟨g1, 0, none⟩) n c9) b) ∧ Aside0 (Fr ok W wr))
                case atStart => exact ⟨t, g, rfl, ⟨by rw [hes'.out]⟩, ⟨⟨t0, t1, htv, by omega⟩⟩, HQ, HS1, HR, HF1⟩
                case round =>
                  clear HS1 HF1 HR HB
                  obtain ⟨y, G, rfl, hE, hY, HQG, HSG, HR, HF⟩ := hrel
                  obtain ⟨we, rfl⟩ : ∃ wo : World, wo = wr := ⟨_, rfl⟩
                  obtain ⟨y0, y1, yv, yr⟩ := hY.out
                  cases gk with
                  | zero => exact absurd yr (by omega)
                  | succ f2 =>
                    by_cases hys : y = s
                    · have hysb : (y != s) = false := bne_eq_false_iff_eq.2 hys
                      have hL : Aside0 (push g l' es = G) := ⟨by rw [hE.out, trail, if_pos hys]; rfl⟩
                      clear hys
                      go_wp2_with fail
                      go_ret
                      exact ⟨by rw [hfin.out]; rfl, by rw [hfin.out]; show Kd.S KT 31 we base ok (.slice A n c) (push g l' es); rw [hL.out]; exact Kd.S_mono HSG.out (fun k hk => (HOK.out k hk).1), HF.out⟩
                    · have hysb : (y != s) = true := bne_iff_ne.2 hys
                      obtain ⟨p0, pr, pe⟩ := (HT.out y y0 y1 yv).2 hys
                      have pv := HRG.out y y0 y1
                      obtain ⟨p, hp⟩ : ∃ p, p = rd b y := ⟨_, rfl⟩
                      have hE2 : Aside0 (push g l' es = push (pushE G l' (p, y)) l' (trail b s f2 p)) := ⟨by rw [hE.out, trail, if_neg hys, ← hp]; rfl⟩
                      obtain ⟨g2, e, hcy, hgyf, hgyb, _⟩ := row_at HR.out y y0 (by rw [hbl.out]; exact y1)
                      injection e with e
                      injection e with e1 _ _
                      subst e1
                      have HP := Aside0.mk hp
                      rw [← hp] at hcy yv p0 pr pv
                      have p1 : p < (n : Int) := pv.2
                      have hA6 : ∃ x, A = some x := by
                        obtain ⟨A', c', e, hle, hC⟩ := Kd.S_reads HSG.out
                        injection e with e1 e2 e3
                        obtain ⟨ad', _, _, e9, _⟩ := at_L1 hC y y0 (by rw [HQG.out.1]; exact y1)
                        exact ⟨ad', by rw [e1, e9]⟩
                      obtain ⟨A, rfl⟩ := hA6
                      have hyr : y < ((rd_L1 G p).length : Int) := by rw [HQG.out.2 p yv p1]; exact y1
                      obtain ⟨g2, d2, s0', s1', s2', s3', ⟨s6, _⟩, s5⟩ := tab_at HSG.out p y yv (by rw [HQG.out.1]; exact p1) y0 hyr
                      have S5 := Aside0.mk s5
                      have S6 := Aside0.mk s6
                      clear hys hp hE s5 s6
                      go_wp2_with fail
                      obtain ⟨w5, hw5⟩ : ∃ w5, w5 = we.setCell ⟨g2, y.toNat, none⟩ (.int .i64 (wrap64 (rd (rd_L1 G p) y - l'))) := ⟨_, rfl⟩
                      rw [← hw5]
                      obtain ⟨G1, hG1⟩ : ∃ G1, G1 = upd G p y (wrap64 (get G p y - l')) := ⟨_, rfl⟩
                      have hE3 : Aside0 (push g l' es = push (upd G1 y p (wrap64 (get G1 y p + l'))) l' (trail b s f2 p)) := ⟨by rw [hE2.out, hG1]; rfl⟩
                      have HQ1 := Aside0.mk (show Sqn n G1 from by rw [hG1]; exact HQG.out.upd _ _ _)
                      have HSG5 := Aside0.mk (show Kd.S KT 31 w5.drew base okg (.slice (some A) n c) G1 from by rw [hw5, hG1]; exact Kd.S_drew (S5.out _).1)
                      have hg12 : Aside0 (g1 ≠ g2) := ⟨by have := (HOK.out g2 S6.out).2; omega⟩
                      have HR5 := Aside0.mk (show Kd.R (Kd.int .i64) 3 w5.drew W.heap.size (fun k => k = g1) (.slice (some ⟨g1, 0, none⟩) n c9) b from by rw [hw5]; exact Kd.R_drew (Kd.R_far HR.out (fun k hk => by have hk' : k = g1 := hk; rw [hk']; exact hg12.out) _))
                      have HF5 := Aside0.mk (show Fr ok W w5.drew from by rw [hw5]; exact (HF.out.setCell (.inl (HOK.out g2 S6.out).1) _).drew)
                      clear hw5 hG1 HSG HR HF hcy hgyf s0' s1' s2' S5 hE2
                      refine wp_region_still_tail 13 (by kernel_rfl) (by kernel_rfl) ?_
                      change wpStill _ _ w5.drew (fun a' => wpList _ _ _ _ a' w5.drew) _ _
                      generalize w5.drew = w6 at HSG5 HR5 HF5 ⊢
                      obtain ⟨g3, e, hcy, _, _, _⟩ := row_at HR5.out y y0 (by rw [hbl.out]; exact y1)
                      injection e with e
                      injection e with e1 _ _
                      subst e1
                      rw [← HP.out] at hcy
                      have hpr2 : p < ((rd_L1 G1 y).length : Int) := by rw [HQ1.out.2 y y0 y1]; exact p1
                      obtain ⟨g4, d4, t0', t1', t2', t3', ⟨t6, _⟩, t5⟩ := tab_at HSG5.out y p y0 (by rw [HQ1.out.1]; exact y1) yv hpr2
                      have T5 := Aside0.mk t5
                      have T6 := Aside0.mk t6
                      clear t5 t6
                      simp only [List.take_succ_cons, List.take_zero, List.drop_succ_cons, List.drop_zero]
                      repeat still_step
                      refine wpStill_nil ?_
                      go_upto_region 27 with (fail)
                      obtain ⟨w7, hw7⟩ : ∃ w7, w7 = w6.setCell ⟨g4, p.toNat, none⟩ (.int .i64 (wrap64 (rd (rd_L1 G1 y) p + l'))) := ⟨_, rfl⟩
                      rw [← hw7]
                      have HSG7 := Aside0.mk (show Kd.S KT 31 w7 base okg (.slice (some A) n c) (upd G1 y p (wrap64 (get G1 y p + l'))) from by rw [hw7]; exact (T5.out _).1)
                      have hg14 : Aside0 (g1 ≠ g4) := ⟨by have := (HOK.out g4 T6.out).2; omega⟩
                      have HR7 := Aside0.mk (show Kd.R (Kd.int .i64) 3 w7 W.heap.size (fun k => k = g1) (.slice (some ⟨g1, 0, none⟩) n c9) b from by rw [hw7]; exact Kd.R_far HR5.out (fun k hk => by have hk' : k = g1 := hk; rw [hk']; exact hg14.out) _)
                      have HF7 := Aside0.mk (show Fr ok W w7 from by rw [hw7]; exact HF5.out.setCell (.inl (HOK.out g4 T6.out).1) _)
                      clear hw7 HSG5 HR5 HF5 hcy t0' t1' t2' T5
                      obtain ⟨g5, e, hcy, _, _, _⟩ := row_at HR7.out y y0 (by rw [hbl.out]; exact y1)
                      injection e with e
                      injection e with e1 _ _
                      subst e1
                      rw [← HP.out] at hcy
                      go_wp2_with fail
                      go_roundg f2
                      case measure => omega
                      case rel => exact ⟨p, _, rfl, hE3, ⟨⟨yv, p1, p0, by omega⟩⟩, ⟨HQ1.out.upd _ _ _⟩, HSG7, HR7, HF7⟩
              · have hysb : (y != s) = true := bne_iff_ne.2 hys
                obtain ⟨p0, pr, pe⟩ := (HT.out y y0 y1 yv).2 hys
                have pv := HRG.out y y0 y1
                obtain ⟨p, hp⟩ : ∃ p, p = rd b y := ⟨_, rfl⟩
                have hE2 : Aside0 (lim g es l = lim g (trail b s f1 p) (min l' (get g p y))) := ⟨by rw [hE.out, trail, if_neg hys, ← hp]; rfl⟩
                obtain ⟨g2, e, hcy, _, _, _⟩ := row_at HR.out y y0 (by rw [hbl.out]; exact y1)
                injection e with e
                injection e with e1 _ _
                subst e1
                rw [← hp] at hcy yv p0 pr pv
                have p1 : p < (n : Int) := pv.2
                obtain ⟨adg, A1, c1, e, hxg, _, hi⟩ := at_L1 (Kd.C_below HCg.out HB.out) p yv p1
                cases e
                have hrl := HQ.out.2 p yv p1
                obtain ⟨adr, e, hxr⟩ := Kd.at_int hi y y0 (by rw [hrl]; exact y1)
                cases e
                have hyr : y < ((rd_L1 g p).length : Int) := by rw [hrl]; exact y1
                have hmin : Aside0 ((if rd (rd_L1 g p) y < l' then rd (rd_L1 g p) y else l') = min l' (get g p y)) := ⟨by unfold get; split <;> omega⟩
                clear hys hi hrl hp hE hw
                by_cases hlt : rd (rd_L1 g p) y < l'
                · have hfm : Aside0 (min l' (get g p y) = rd (rd_L1 g p) y) := ⟨by rw [← hmin.out, if_pos hlt]⟩
                  rw [hfm.out] at hE2
                  clear hmin hfm
                  go_wp2_with fail
                  go_roundg f1
                  case measure => omega
                  case rel => exact ⟨_, p, rfl, rfl, hE2, ⟨⟨yv, p1, p0, by omega⟩⟩, ⟨rfl⟩⟩
                · have hfm : Aside0 (min l' (get g p y) = l') := ⟨by rw [← hmin.out, if_neg hlt]⟩
                  rw [hfm.out] at hE2
                  clear hmin hfm
                  go_wp2_with fail
                  go_roundg f1
                  case measure => omega
                  case rel => exact ⟨_, p, rfl, rfl, hE2, ⟨⟨yv, p1, p0, by omega⟩⟩, ⟨rfl⟩⟩

end Go.Proofs.Ytdljbmgknhbceaa.A

namespace Go.Proofs.Ytdljbmgknhbceaa.A
open Go.RowKit Go.Proofs.YtdljbmgknhbceaaW.PrintWords Go.Proofs.YtdljbmgknhbceaaW.PrintLast Go.Proofs.YtdljbmgknhbceaaW.PrintMore Go.Proofs.Ytdljbmgknhbceaa.Q
set_option linter.unusedVariables false
set_option linter.unusedSimpArgs false

theorem pushE_sq {n : Nat} {g : List (List Int)} (h : Sqn n g) (d : Int) (e : Int × Int) : Sqn n (pushE g d e) := (h.upd _ _ _).upd _ _ _
theorem push_sq {n : Nat} (d : Int) : ∀ (es : List (Int × Int)) (g : List (List Int)), Sqn n g → Sqn n (push g d es)
  | [], g, h => h
  | e :: es, g, h => push_sq d es _ (pushE_sq h d e)
theorem augG_sq {n : Nat} {g : List (List Int)} (h : Sqn n g) (s t l : Int) : Sqn n (augG g s t l).1 := by
  unfold augG
  simp only []
  split
  · exact h
  · exact push_sq _ _ _ h
theorem lim_le (g : List (List Int)) : ∀ (es : List (Int × Int)) (l : Int), lim g es l ≤ l
  | [], l => Int.le_refl _
  | e :: es, l => by
    rw [lim]
    have := lim_le g es (min l (get g e.1 e.2))
    omega
theorem lim_trail {g : List (List Int)} {n : Nat} {s : Int} {b q : List Int} {cl : Int → Int → Prop} (h : BI g n s b q cl) {rk : Int → Nat} {m : Nat} (ht : ∀ y : Int, 0 ≤ y → y < n → 0 ≤ rd b y → rk y < m ∧ (y ≠ s → 0 ≤ rd b (rd b y) ∧ rk (rd b y) < rk y ∧ 0 < get g (rd b y) y)) :
    ∀ (f : Nat) (y l : Int), 0 ≤ y → y < n → 0 ≤ rd b y → 0 < l → 0 < lim g (trail b s f y) l := by
  intro f
  induction f with
  | zero => intro y l _ _ _ hl; exact hl
  | succ f ih =>
    intro y l y0 y1 yv hl
    rw [trail]
    split
    · exact hl
    · rename_i hys
      obtain ⟨p0, _, pe⟩ := (ht y y0 y1 yv).2 hys
      have := h.rng y y0 y1
      rw [lim]
      exact ih (rd b y) _ yv this.2 p0 (by simp only []; omega)
theorem augG_pos {n : Nat} {g : List (List Int)} (h : Sqn n g) (s t l : Int) (s0 : 0 ≤ s) (s1 : s < n) (t0 : 0 ≤ t) (t1 : t < n) (hl : 0 < l) : 0 ≤ (augG g s t l).2 ∧ (augG g s t l).2 ≤ l := by
  have hend := bfs_end (t := t) h.1 s0 s1 (n + 1) (initB n s) [s] (BI.init g n s s0 s1) (by
    have := unv_set (List.replicate n (-1)) s.toNat s (by simp; omega) (by simp) s0
    rw [unv_replicate] at this
    show unv (initB n s) + 1 < n + 1
    unfold initB
    omega)
  have hbef : before g s t = bfs g t (n + 1) (initB n s, [s]) := by rw [before, h.1]
  rw [← hbef] at hend
  obtain ⟨q, hB, _⟩ := hend
  obtain ⟨rk, m, _, ht⟩ := hB.tree
  unfold augG
  simp only []
  split
  · simp only []; omega
  · rename_i hv
    have := lim_trail hB ht g.length t l t0 t1 (by omega) hl
    have := lim_le g (trail (before g s t) s g.length t) l
    simp only []
    omega

set_option maxHeartbeats 4000000 in
set_option maxRecDepth 100000 in
theorem flow_any (n : Nat) (A : Option Addr) (c : Nat) (g : List (List Int)) (s t l : Int) (W : World) (base : Nat) (ok : Nat → Prop) (hs : Kd.S KT 31 W base ok (.slice A n c) g) (hq : Sqn n g) (hn : n ≤ 1000)
    (s0 : 0 ≤ s) (s1 : s < n) (t0 : 0 ≤ t) (t1 : t < n) (hl0 : 0 ≤ l) (hl1 : l ≤ 1125899906842624) :
    Calls Try.prog 50 #[.slice A n c, .int .i64 s, .int .i64 t, .int .i64 l] W fun e w' => e = .returned (.int .i64 (flowG s t l l.toNat g 0).2) ∧ Kd.S KT 31 w' base ok (.slice A n c) (flowG s t l l.toNat g 0).1 ∧ Fr ok W w' := by
  have HS := Aside0.mk hs
  have HQ := Aside0.mk hq
  clear hs hq
  go_enter Try.func50, Try.ntmps50
  go_wp2_with fail
  go_loopg [9] l.toNat (fun f v9 wr => ∃ (sent : Int) (G : List (List Int)), v9 = .int .i64 sent ∧ Aside0 (flowG s t l l.toNat g 0 = flowG s t l f G sent) ∧ Aside0 (0 ≤ sent ∧ (l - sent).toNat ≤ f ∧ sent ≤ l) ∧ Aside0 (Sqn n G) ∧ Aside0 (Kd.S KT 31 wr base ok (.slice A n c) G) ∧ Aside0 (Fr ok W wr))
  case atStart => exact ⟨0, g, rfl, ⟨rfl⟩, ⟨⟨by omega, by omega, hl0⟩⟩, HQ, HS, ⟨Fr.of_below (Below.refl _ _)⟩⟩
  case round =>
    clear HS
    obtain ⟨sent, G, rfl, hE, hb, HQG, HSG, HF⟩ := hrel
    obtain ⟨b0, b1, b2⟩ := hb.out
    by_cases hlt : sent < l
    · have hlb : decide (sent < l) = true := decide_eq_true hlt
      cases gk with
      | zero => omega
      | succ f =>
        have hr := augG_pos HQG.out s t (l - sent) s0 s1 t0 t1 (by omega)
        obtain ⟨r, hr2⟩ : ∃ r, r = augG G s t (l - sent) := ⟨_, rfl⟩
        have hE2 : Aside0 (flowG s t l l.toNat g 0 = if r.2 = 0 then (r.1, sent) else flowG s t l f r.1 (sent + r.2)) := ⟨by rw [hE.out, flowG, if_pos hlt, hr2]⟩
        have HQ2 := Aside0.mk (show Sqn n r.1 from by rw [hr2]; exact augG_sq HQG.out _ _ _)
        have HR := Aside0.mk hr2
        rw [← hr2] at hr
        obtain ⟨r0, r1⟩ := hr
        obtain ⟨G', x⟩ := r
        simp only at r0 r1 hE2 HQ2
        have HX1 := Aside0.mk (show (augG G s t (l - sent)).1 = G' from by rw [← HR.out])
        have HX2 := Aside0.mk (show (augG G s t (l - sent)).2 = x from by rw [← HR.out])
        clear HR hr2 hlt hE
        by_cases hx : x = 0
        · have hxb : (x == 0) = true := beq_iff_eq.2 hx
          rw [if_pos hx] at hE2
          clear hx
          go_wp2_with (go_at_call 67; refine (augment_any n A c G s t (l - sent) _ base ok HSG.out HQG.out hn s0 s1 t0 t1).mono ?_; rw [HX1.out, HX2.out]; rintro e w1 ⟨rfl, hS, hF⟩; have HS1 := Aside0.mk hS; have HF1 := Aside0.mk (HF.out.trans hF); clear hS hF)
          go_ret
          exact ⟨by rw [hE2.out]; rfl, by rw [hE2.out]; exact HS1.out, HF1.out⟩
        · have hxb : (x == 0) = false := beq_eq_false_iff_ne.2 hx
          rw [if_neg hx] at hE2
          have hx1 : 1 ≤ x := by omega
          clear hx
          go_wp2_with (go_at_call 67; refine (augment_any n A c G s t (l - sent) _ base ok HSG.out HQG.out hn s0 s1 t0 t1).mono ?_; rw [HX1.out, HX2.out]; rintro e w1 ⟨rfl, hS, hF⟩; have HS1 := Aside0.mk hS; have HF1 := Aside0.mk (HF.out.trans hF); clear hS hF)
          go_roundg f
          case measure => omega
          case rel => exact ⟨sent + x, G', rfl, hE2, ⟨⟨by omega, by omega, by omega⟩⟩, HQ2, HS1, HF1⟩
    · have hlb : decide (sent < l) = false := decide_eq_false hlt
      have hfin : Aside0 (flowG s t l l.toNat g 0 = (G, sent)) := ⟨by
        rw [hE.out]
        cases gk with
        | zero => rfl
        | succ f => rw [flowG, if_neg hlt]⟩
      clear hlt
      go_wp2_with fail
      go_ret
      exact ⟨by rw [hfin.out]; rfl, by rw [hfin.out]; exact HSG.out, HF.out⟩

end Go.Proofs.Ytdljbmgknhbceaa.A

namespace Go.Proofs.Ytdljbmgknhbceaa.A
open Go.RowKit Go.Proofs.YtdljbmgknhbceaaW.PrintWords Go.Proofs.YtdljbmgknhbceaaW.PrintLast Go.Proofs.YtdljbmgknhbceaaW.PrintMore Go.Proofs.Ytdljbmgknhbceaa.Q
set_option linter.unusedVariables false
set_option linter.unusedSimpArgs false

/-- A new row laid into a table of the call's own. -/
theorem tab_row {W0 W1 : World} {base : Nat} {ok : Nat → Prop} {A : Option Addr} {n cap : Nat} {t : List (List Int)} {v : Value} {row : List Int} (h : Kd.S KT 31 W0 base ok (.slice A n cap) t) (hb : Below W0.heap.size W0 W1) (hr : Kd.R (Kd.int .i64) 3 W1 W0.heap.size (fun _ => True) v row)
    (hbase : base ≤ W0.heap.size) (hok : ∀ k, W0.heap.size ≤ k → ok k) (i : Int) (i0 : 0 ≤ i) (i1 : i < t.length) :
    ∃ g x, A = some ⟨g, 0, none⟩ ∧ W1.cell? ⟨g, i.toNat, none⟩ = some x ∧ W1.frozen? ⟨g, i.toNat, none⟩ = false ∧ base ≤ g ∧ g < W0.heap.size ∧ Kd.S KT 31 (W1.setCell ⟨g, i.toNat, none⟩ v) base ok (.slice A n cap) (t.set i.toNat row) := by
  obtain ⟨hn, _, hC⟩ := Kd.S_reads' h
  obtain ⟨ad, _, _, e, _⟩ := at_L1 hC i i0 (by omega)
  subst e
  obtain ⟨inner, ho⟩ := Kd.S_own h
  rcases ho.2 with ⟨h0, _⟩ | ⟨g, cap', cur, he, hbg, hh, _⟩
  · cases h0
  · injection he with he1 he2 he3
    injection he1 with he1
    subst he1
    have hgl : g < W0.heap.size := lt_of_block hh
    have hS := Kd.S_mono (Kd.S_bound h) (ok' := fun k => ok k ∧ ¬ (W0.heap.size ≤ k)) (fun k hk => ⟨hk.1, by omega⟩)
    obtain ⟨oki, c, hcl, hM, hcc, hoki, hH⟩ := Kd.S_lend hS ([] : List Int) i i0 (by omega)
    have hH1 := Kd.H_below hH hb
    obtain ⟨hcells, hfr⟩ := Kd.H_at hH1 i0 (by omega)
    obtain ⟨v0, rfl, _⟩ := hM
    have hMn : KT.M W1 base (fun k => W0.heap.size ≤ k) row (([v0] : List Value).take 0 ++ [v] ++ ([v0] : List Value).drop (0 + [v].length)) := by
      refine ⟨v, rfl, ?_⟩
      exact Kd.R_lower (Kd.R_mono (Kd.R_bound hr) (fun k hk => hk.2.1)) hbase
    obtain ⟨s1, _⟩ := Kd.S_seg (okg := fun k => W0.heap.size ≤ k) (seg := [v]) (j := 0) hH1 i0 (by omega) (by simp [KT, Kd.slice]) hMn (fun k hk => .inr hk) (fun k hk => ⟨hok k hk, by omega⟩)
    have e0 : i.toNat * KT.sz + 0 = i.toNat := by simp [KT, Kd.slice]
    refine ⟨g, v0, rfl, ?_, ?_, hbg, hgl, ?_⟩
    · have := hcells 0 _ rfl
      rwa [e0] at this
    · have := hfr 0
      rwa [e0] at this
    · rw [e0] at s1
      exact s1

theorem node47 (d x : Int) (w : World) (hx : x = 2 + d) (d0 : 0 ≤ d) (d1 : d < 1000) : Calls Try.prog 47 #[.int .i64 d] w fun e w' => e = .returned (.int .i64 x) ∧ w' = w := by
  subst hx
  go_enter Try.func47, Try.ntmps47
  go_wp2
  go_ret
  exact ⟨rfl, rfl⟩
theorem node48 (d x : Int) (n b : Nat) (w : World) (hb : w.cell? ⟨b, 0, none⟩ = some (.int .i64 n)) (hx : x = 2 + n + d) (hn : n ≤ 1000) (d0 : 0 ≤ d) (d1 : d < n) : Calls Try.prog 48 #[.int .i64 d, .pointer (some ⟨b, 0, none⟩)] w fun e w' => e = .returned (.int .i64 x) ∧ w' = w := by
  subst hx
  go_enter Try.func48, Try.ntmps48
  go_wp2
  go_ret
  exact ⟨rfl, rfl⟩
theorem node49 (f o x : Int) (n b : Nat) (w : World) (hb : w.cell? ⟨b, 0, none⟩ = some (.int .i64 n)) (hx : x = 2 + 2 * n + f * n + o) (hn : n ≤ 1000) (f0 : 0 ≤ f) (f1 : f < n) (o0 : 0 ≤ o) (o1 : o < n) : Calls Try.prog 49 #[.int .i64 f, .int .i64 o, .pointer (some ⟨b, 0, none⟩)] w fun e w' => e = .returned (.int .i64 x) ∧ w' = w := by
  subst hx
  have h1 : 0 ≤ f * (n : Int) := Int.mul_nonneg f0 (by omega)
  have h2 : f * (n : Int) ≤ 1000000 := Int.le_trans (Int.mul_le_mul (show f ≤ 1000 by omega) (show (n : Int) ≤ 1000 by omega) (by omega) (by omega)) (by omega)
  go_enter Try.func49, Try.ntmps49
  go_wp2
  go_ret
  exact ⟨rfl, rfl⟩

end Go.Proofs.Ytdljbmgknhbceaa.A

namespace Go.Proofs.Ytdljbmgknhbceaa.A
open Go.RowKit Go.Proofs.YtdljbmgknhbceaaW.PrintWords Go.Proofs.YtdljbmgknhbceaaW.PrintLast Go.Proofs.YtdljbmgknhbceaaW.PrintMore Go.Proofs.Ytdljbmgknhbceaa.Q
set_option linter.unusedVariables false
set_option linter.unusedSimpArgs false

/-! ### the moves that Settle may make lie in range -/
def okM (n : Nat) (m : S29) : Prop := (0 ≤ m.f0 ∧ m.f0 < n) ∧ (0 ≤ m.f1 ∧ m.f1 < n) ∧ (0 ≤ m.f2 ∧ m.f2 < n)
theorem sTto_range {n : Nat} {has q : List Int} {f o : Int} (hf : 0 ≤ f ∧ f < n) (ho : 0 ≤ o ∧ o < n) {s : List (List Int) × List S29} (h : ∀ m ∈ s.2, okM n m) : ∀ k, k ≤ n → ∀ m ∈ (sTto n has q f o s k).2, okM n m := by
  intro k
  induction k with
  | zero => exact fun _ => h
  | succ k ih =>
    intro hk m hm
    have ih := ih (by omega)
    simp only [sTto, sT] at hm
    split at hm
    · simp only [List.mem_append, List.mem_singleton] at hm
      rcases hm with hm | rfl
      · exact ih m hm
      · exact ⟨hf, ⟨by show (0 : Int) ≤ k; omega, by show (k : Int) < n; omega⟩, ho⟩
    · exact ih m hm
theorem sOto_range {n : Nat} {has q : List Int} {t : List (List Int)} {f : Int} (hf : 0 ≤ f ∧ f < n) {s : List (List Int) × List S29} (h : ∀ m ∈ s.2, okM n m) : ∀ k, k ≤ n → ∀ m ∈ (sOto n has q t f s k).2, okM n m := by
  intro k
  induction k with
  | zero => exact fun _ => h
  | succ k ih =>
    intro hk
    have ih := ih (by omega)
    exact sTto_range hf ⟨by omega, by omega⟩ (s := (upd (sOto n has q t f s k).1 (nodeH f) (nodeP n f (k : Nat)) (get t f (k : Nat)), (sOto n has q t f s k).2)) ih n (Nat.le_refl n)
theorem sFto_range {n : Nat} {has q : List Int} {t : List (List Int)} {s : List (List Int) × Int × List S29} (h : ∀ m ∈ s.2.2, okM n m) : ∀ k, k ≤ n → ∀ m ∈ (sFto n has q t s k).2.2, okM n m := by
  intro k
  induction k with
  | zero => exact fun _ => h
  | succ k ih =>
    intro hk
    have ih := ih (by omega)
    simp only [sFto, sF]
    split
    · exact ih
    · exact sOto_range ⟨by omega, by omega⟩ (s := (upd (sFto n has q t s k).1 0 (nodeH (k : Nat)) (wrap64 (rd has (k : Nat) - rd q (k : Nat))), (sFto n has q t s k).2.2)) ih n (Nat.le_refl n)
theorem flowG_sq {n : Nat} (s t l : Int) : ∀ (f : Nat) (g : List (List Int)) (sent : Int), Sqn n g → Sqn n (flowG s t l f g sent).1 := by
  intro f
  induction f with
  | zero => intro g sent h; exact h
  | succ f ih =>
    intro g sent h
    simp only [flowG]
    repeat' split
    all_goals first | exact h | exact ih _ _ (augG_sq h _ _ _) | exact augG_sq h _ _ _

/-! ### the frame of the last loop -/
structure Mvs (w2 wr : World) (N : Nat) (okg okq ok20 : Nat → Prop) (hg2 : Nat) (A13 : Addr) (c13 : Nat) (v16 v20 : Value) (G : List (List Int)) (ord out : List S29) : Prop where
  sg : Kd.S KT 31 wr w2.heap.size okg (.slice (some A13) N c13) G
  sq : Sqn N G
  rq : Kd.R k29 29 wr w2.heap.size okq v16 ord
  ro : Kd.R k29 29 wr w2.heap.size ok20 v20 out
  be : Below w2.heap.size w2 wr
  hg : hg2 ≤ wr.heap.size
  h2 : w2.heap.size ≤ hg2
  hok : ∀ k, okg k → w2.heap.size ≤ k ∧ k < hg2
  hoq : ∀ k, okq k → ¬ okg k ∧ k < hg2
  ho2 : ∀ k, ok20 k → hg2 ≤ k
/-- The cells of one move. -/
def Bx (w : World) (bm : Nat) (a0 a1 a2 b : Int) : Prop := w.heap[bm]? = some (.cells #[.int .i64 a0, .int .i64 a1, .int .i64 a2, .int .i64 b] 29 (0, 0))
section
variable {w2 wr w1 : World} {N : Nat} {okg okq ok20 : Nat → Prop} {hg2 : Nat} {A13 : Addr} {c13 : Nat} {v16 v20 v : Value} {G G' : List (List Int)} {ord out out' : List S29} {bm : Nat} {a0 a1 a2 b : Int}
theorem Mvs.drew (h : Mvs w2 wr N okg okq ok20 hg2 A13 c13 v16 v20 G ord out) : Mvs w2 wr.drew N okg okq ok20 hg2 A13 c13 v16 v20 G ord out := ⟨Kd.S_drew h.sg, h.sq, Kd.R_drew h.rq, Kd.R_drew h.ro, below_drew h.be, h.hg, h.h2, h.hok, h.hoq, h.ho2⟩
theorem Mvs.drewN (h : Mvs w2 wr N okg okq ok20 hg2 A13 c13 v16 v20 G ord out) (m : Nat) : Mvs w2 (wr.drewN m) N okg okq ok20 hg2 A13 c13 v16 v20 G ord out := ⟨Kd.S_drewN h.sg m, h.sq, Kd.R_drewN h.rq m, Kd.R_drewN h.ro m, pw_below_drewN h.be m, h.hg, h.h2, h.hok, h.hoq, h.ho2⟩
theorem Mvs.alloc (h : Mvs w2 wr N okg okq ok20 hg2 A13 c13 v16 v20 G ord out) (o : Obj) : Mvs w2 (wr.alloc o) N okg okq (fun k => ok20 k ∧ k ≠ wr.heap.size) hg2 A13 c13 v16 v20 G ord out :=
  ⟨Kd.S_alloc h.sg o, h.sq, Kd.R_alloc h.rq o, Kd.R_mono (Kd.R_alloc (Kd.R_bound h.ro) o) (fun k hk => ⟨hk.1, by have := hk.2.2.1; omega⟩), h.be.alloc h.be.size o, by have := h.hg; simp; omega, h.h2, h.hok, h.hoq, fun k hk => h.ho2 k hk.1⟩
theorem Mvs.weak (h : Mvs w2 wr N okg okq ok20 hg2 A13 c13 v16 v20 G ord out) : Mvs w2 wr N okg okq (fun k => hg2 ≤ k) hg2 A13 c13 v16 v20 G ord out := ⟨h.sg, h.sq, h.rq, Kd.R_mono h.ro h.ho2, h.be, h.hg, h.h2, h.hok, h.hoq, fun _ hk => hk⟩
theorem Mvs.at (h : Mvs w2 wr N okg okq ok20 hg2 A13 c13 v16 v20 G ord out) (i j : Int) (i0 : 0 ≤ i) (i1 : i < N) (j0 : 0 ≤ j) (j1 : j < N) :
    ∃ g d, wr.cell? (A13.add i.toNat) = some (.slice (some ⟨g, 0, none⟩) N d) ∧ wr.cell? ⟨g, j.toNat, none⟩ = some (.int .i64 (get G i j)) ∧ wr.frozen? ⟨g, j.toNat, none⟩ = false ∧ g < hg2 ∧
      ∀ x, Mvs w2 (wr.setCell ⟨g, j.toNat, none⟩ (.int .i64 x)) N okg okq ok20 hg2 A13 c13 v16 v20 (upd G i j x) ord out := by
  have hrl := h.sq.2 i i0 i1
  obtain ⟨g, d, s0, s1, s2, s3, ⟨s4, _⟩, s5⟩ := tab_at h.sg i j i0 (by rw [h.sq.1]; exact i1) j0 (by rw [hrl]; exact j1)
  rw [hrl] at s0
  refine ⟨g, d, s0, s1, s2, (h.hok g s4).2, fun x => ⟨(s5 x).1, h.sq.upd _ _ _, ?_, ?_, h.be.setCell s3 _, by simpa [World.setCell] using h.hg, h.h2, h.hok, h.hoq, h.ho2⟩⟩
  · exact Kd.R_far h.rq (fun k hk => by
      have := (h.hoq k hk).1
      show k ≠ g
      intro e
      exact this (e ▸ s4)) _
  · exact Kd.R_far h.ro (fun k hk => by
      have := h.ho2 k hk
      have h1 := (h.hok g s4).2
      show k ≠ g
      omega) _
theorem Mvs.fr (h : Mvs w2 wr N okg okq ok20 hg2 A13 c13 v16 v20 G ord out) (hf : Fr okg wr w1) (hs : Kd.S KT 31 w1 w2.heap.size okg (.slice (some A13) N c13) G') (hq : Sqn N G') : Mvs w2 w1 N okg okq ok20 hg2 A13 c13 v16 v20 G' ord out :=
  ⟨hs, hq, Kd.R_step h.rq (fun k ho hk => hf.block k hk (h.hoq k ho).1), Kd.R_step h.ro (fun k ho hk => hf.block k hk (fun e => by have := (h.hok k e).2; have := h.ho2 k ho; omega)), hf.below h.be h.be.size (fun k hk => (h.hok k hk).1), Nat.le_trans h.hg hf.size, h.h2, h.hok, h.hoq, h.ho2⟩
theorem Mvs.box (h : Mvs w2 wr N okg okq ok20 hg2 A13 c13 v16 v20 G ord out) (hb : hg2 ≤ bm) (hn : ∀ k, ok20 k → k ≠ bm) (j : Nat) (u : Value) : Mvs w2 (wr.setCell ⟨bm, j, none⟩ u) N okg okq ok20 hg2 A13 c13 v16 v20 G ord out :=
  ⟨Kd.S_far h.sg (fun k hk => by have := (h.hok k hk).2; show k ≠ bm; omega) _, h.sq, Kd.R_far h.rq (fun k hk => by have := (h.hoq k hk).2; show k ≠ bm; omega) _, Kd.R_far h.ro (fun k hk => hn k hk) _, h.be.setCell (by have := h.h2; show w2.heap.size ≤ bm; omega) _, by simpa [World.setCell] using h.hg, h.h2, h.hok, h.hoq, h.ho2⟩
theorem Mvs.append (h : Mvs w2 wr N okg okq ok20 hg2 A13 c13 v16 v20 G ord out) (hg : wr.grownBy w1 v20.ownBlock) (hb : Below w2.heap.size w2 w1) (hr : Kd.R k29 29 w1 w2.heap.size ok20 v out') : Mvs w2 w1 N okg okq ok20 hg2 A13 c13 v16 v G ord out' :=
  ⟨Kd.S_grown h.sg hg (fun k hk e => by
      have h1 := h.ho2 k (h.ro.1 k e.symm)
      have := (h.hok k hk).2
      omega), h.sq, Kd.R_grown h.rq hg (fun k hk e => by
      have h1 := h.ho2 k (h.ro.1 k e.symm)
      have := (h.hoq k hk).2
      omega), hr, hb, Nat.le_trans h.hg hg.size, h.h2, h.hok, h.hoq, h.ho2⟩
theorem Bx.drew (h : Bx wr bm a0 a1 a2 b) : Bx wr.drew bm a0 a1 a2 b := h
theorem Bx.cells (h : Bx wr bm a0 a1 a2 b) : wr.cell? ⟨bm, 0, none⟩ = some (.int .i64 a0) ∧ wr.cell? ⟨bm, 1, none⟩ = some (.int .i64 a1) ∧ wr.cell? ⟨bm, 2, none⟩ = some (.int .i64 a2) ∧ wr.cell? ⟨bm, 3, none⟩ = some (.int .i64 b) ∧ wr.frozen? ⟨bm, 3, none⟩ = false := by
  unfold Bx at h
  refine ⟨by simp [World.cell?, h], by simp [World.cell?, h], by simp [World.cell?, h], by simp [World.cell?, h], by simp [World.frozen?, h]⟩
theorem Bx.put (h : Bx wr bm a0 a1 a2 b) (x : Int) : Bx (wr.setCell ⟨bm, 3, none⟩ (.int .i64 x)) bm a0 a1 a2 x := by
  unfold Bx at h ⊢
  rw [Go.heap_setCell_same _ _ _ _ _ _ h]
  rfl
theorem Bx.far (h : Bx wr bm a0 a1 a2 b) {g : Nat} (hg : g ≠ bm) (j : Nat) (u : Value) : Bx (wr.setCell ⟨g, j, none⟩ u) bm a0 a1 a2 b := by
  unfold Bx at h ⊢
  rw [Below.heap_setCell _ _ _ _ (by show bm ≠ g; omega)]
  exact h
theorem Bx.fr (h : Bx wr bm a0 a1 a2 b) (hf : Fr okg wr w1) (hn : ¬ okg bm) : Bx w1 bm a0 a1 a2 b := by
  unfold Bx at h ⊢
  rw [hf.block bm (lt_of_block h) hn]
  exact h
end

end Go.Proofs.Ytdljbmgknhbceaa.A
