-- Merged by wip/tools/shake.py out of: Bd, Aj, Af, Qv, Qx1, Qx25
import Derived.Test.YtdljbmgknhbceaaZ1
import Derived.Test.YtdljbmgknhbceaaZ2
import Derived.IntWalk
import Derived.StillTailTactics
import Derived.WalkSpells
set_option linter.unusedVariables false
set_option linter.unusedSimpArgs false
set_option linter.unusedSectionVars false
section
namespace Go.Proofs.Ytdljbmgknhbceaa.A
open Go.RowKit Go.Proofs.YtdljbmgknhbceaaW.PrintWords Go.Proofs.YtdljbmgknhbceaaW.PrintLast Go.Proofs.YtdljbmgknhbceaaW.PrintMore Go.Proofs.Ytdljbmgknhbceaa.Q
attribute [local go_sem] max2_int min2_int max_two min_two max_three min_three max_four min_four
structure Fr (ok : Nat → Prop) (W w' : World) : Prop where
 os : w'.os = W.os
 tape : w'.tape = W.tape
 output : w'.output = W.output
 size : W.heap.size ≤ w'.heap.size
 block : ∀ k, k < W.heap.size → ¬ ok k → w'.heap[k]? = W.heap[k]?
theorem Fr.of_below {ok : Nat → Prop} {W w' : World} (h : Below W.heap.size W w') : Fr ok W w' := ⟨h.os, h.tape, h.output, h.size, fun k hk _ => h.block k hk⟩
theorem Fr.trans {ok : Nat → Prop} {a b c : World} (h : Fr ok a b) (k : Fr ok b c) : Fr ok a c :=
 ⟨k.os.trans h.os, k.tape.trans h.tape, k.output.trans h.output, Nat.le_trans h.size k.size, fun i hi hn => (k.block i (Nat.lt_of_lt_of_le hi h.size) hn).trans (h.block i hi hn)⟩
theorem Fr.setCell {ok : Nat → Prop} {W w' : World} (h : Fr ok W w') {p : Addr} (hp : ok p.block ∨ W.heap.size ≤ p.block) (u : Value) : Fr ok W (w'.setCell p u) :=
 ⟨h.os, h.tape, h.output, by simpa [World.setCell] using h.size, fun k hk hn => by
   rw [Below.heap_setCell _ _ _ _ (by rintro rfl; rcases hp with hp | hp; exact hn hp; omega)]
   exact h.block k hk hn⟩
theorem Fr.drew {ok : Nat → Prop} {W w' : World} (h : Fr ok W w') : Fr ok W w'.drew := ⟨h.os, h.tape, h.output, h.size, h.block⟩
theorem Fr.drewN {ok : Nat → Prop} {W w' : World} (h : Fr ok W w') (n : Nat) : Fr ok W (w'.drewN n) := ⟨h.os, h.tape, h.output, h.size, h.block⟩
theorem Fr.below {ok : Nat → Prop} {base : Nat} {w0 W w' : World} (h : Fr ok W w') (hb : Below base w0 W) (hbase : base ≤ W.heap.size) (hok : ∀ k, ok k → base ≤ k) : Below base w0 w' :=
 hb.trans ⟨h.os, h.tape, h.output, h.size, fun k hk => h.block k (by omega) (fun hn => by have := hok k hn; omega)⟩
set_option maxHeartbeats 8000000 in
set_option maxRecDepth 100000 in
theorem augment_any (n : Nat) (A : Option Addr) (c : Nat) (g : List (List Int)) (s t l : Int) (W : World) (base : Nat) (ok : Nat → Prop) (hs : Kd.S KT 31 W base ok (.slice A n c) g) (hq : Sqn n g) (hn : n ≤ 1000)
 (s0 : 0 ≤ s) (s1 : s < n) (t0 : 0 ≤ t) (t1 : t < n) :
 Calls Try.prog 67 #[.slice A n c, .int .i64 s, .int .i64 t, .int .i64 l] W fun e w' => e = .returned (.int .i64 (augG g s t l).2) ∧ Kd.S KT 31 w' base ok (.slice A n c) (augG g s t l).1 ∧ Fr ok W w' := by
 obtain ⟨okg, hokg⟩ : ∃ okg : Nat → Prop, okg = fun k => ok k ∧ k < W.heap.size := ⟨_, rfl⟩
 have HS := sA (show Kd.S KT 31 W base okg (.slice A n c) g from by rw [hokg]; exact Kd.S_mono (Kd.S_bound hs) (fun k hk => ⟨hk.1, hk.2.2.1⟩))
 have HOK := sA (show ∀ k, okg k → ok k ∧ k < W.heap.size from by rw [hokg]; exact fun k hk => hk)
 have HQ := sA hq
 have hgl := sA hq.1
 obtain ⟨Z, hZ⟩ : ∃ Z : List Int, Z = List.replicate n 0 := ⟨_, rfl⟩
 have hZl : Aside0 (Z.length = n) := ⟨by rw [hZ]; simp⟩
 have NZ := sA hZ
 have h0 : (0 : Int) ≤ (n : Int) := by omega
 have HL := sA (show ((n : Int)).toNat * 8 ≤ 281474976710656 from by omega)
 clear hs hokg hq hZ
 go_enter Try.func67, Try.ntmps67
 go_wp2_with (first | ((with_reducible refine gate_dst (N := 19) rfl ?_); refine Kd.R_make (Kd.int .i64) (w0 := W) W.heap.size 3 rfl (N := 19) rfl 31 _ _ rfl (n : Int) rfl rfl Try.underlying31 (.int .i64 0) 8 info3 rfl (by decide) (by omega) 0 (ok := fun _ => True) (okp := fun _ => True) rfl (fun _ hk => hk) trivial h0 HL.out (Below.refl _ _) (Nat.le_refl _) ?_; intro v163 w4 ho5 hb hg_ hnew_; clear hg_; rw [Int.toNat_natCast, ← NZ.out] at ho5; obtain ⟨A9, c9, e9⟩ : ∃ A c, v163 = .slice A n c := (by obtain ⟨A, c, e⟩ := Kd.R_slice ho5; exact ⟨A, c, by rw [e, hZl.out]⟩); subst e9; obtain ⟨gb, hgbo, hgb0⟩ := hnew_; have HO := sA (Kd.R_mono (Kd.R_tight rfl ho5) (ok' := fun k => k = gb) (fun k hk => by rw [hgbo] at hk; injection hk)); have HB := sA hb; have HGB := sA hgbo; clear hb ho5))
 go_loopw [22] (fun i wr => ∃ k : Nat, k ≤ n ∧ i = .int .i64 k ∧ Aside0 (Kd.R (Kd.int .i64) 3 wr W.heap.size (fun k => k = gb) (.slice A9 n c9) (part (fun _ => -1) Z k)) ∧ Aside0 (Below W.heap.size W wr)) (fun i _ => n - (intOf i).toNat)
 case atStart => exact ⟨0, by omega, rfl, ⟨by rw [part_zero]; exact HO.out⟩, HB⟩
 case round =>
  clear HO HB
  obtain ⟨k, hk, rfl, HO, HB⟩ := hrel
  obtain ⟨wb, rfl⟩ : ∃ wo : World, wo = wr := ⟨_, rfl⟩
  by_cases hlt : k < n
  · obtain ⟨P, hP⟩ : ∃ P, P = part (fun _ => -1) Z k := ⟨_, rfl⟩
    have hPl : Aside0 (P.length = n) := ⟨by rw [hP, part_length _ _ _ (by rw [hZl.out]; omega), hZl.out]⟩
    have hst : Aside0 (P.set k (-1) = part (fun _ => -1) Z (k + 1)) := ⟨by rw [hP]; exact part_step (fun _ => (-1 : Int)) Z k (by rw [hZl.out]; exact hlt)⟩
    rw [← hP] at HO
    clear hP
    obtain ⟨g1, e, hc1, hf1, hbg, hput⟩ := row_at HO.out k (by omega) (by rw [hPl.out]; omega)
    cases e
    rw [Int.toNat_natCast] at hc1 hf1
    have HP := sA hput
    clear hput
    go_wp2
    go_roundw
    case rel => exact ⟨k + 1, by omega, by go_num, ⟨by rw [← hst.out]; exact (HP.out _).1⟩, ⟨HB.out.setCell hbg _⟩⟩
    case measure => simp [intOf]; omega
  · have hf : Aside0 (part (fun _ => -1) Z k = List.replicate n (-1)) := ⟨by
      obtain rfl : k = Z.length := by rw [hZl.out]; omega
      rw [part_full, hZl.out]
      apply List.ext_getElem
      · simp
      · intro i h1 h2; simp⟩
    have HO2 := sA (show Kd.R (Kd.int .i64) 3 wb W.heap.size (fun k => k = gb) (.slice A9 n c9) (List.replicate n (-1)) from by have := HO.out; rwa [hf.out] at this)
    obtain ⟨g1, e, hc1, hf1, hbg, hput⟩ := row_at HO2.out s s0 (by simpa using s1)
    cases e
    obtain rfl : g1 = gb := by have := HGB.out; simp [Value.ownBlock] at this; exact this
    have HP := sA hput
    have HI := sA (BI.init g n s s0 s1)
    clear hput HO hf
    go_upto_block 2 with (fail)
    obtain ⟨w1, hw1⟩ : ∃ w1, w1 = (wb.setCell ⟨g1, s.toNat, none⟩ (.int .i64 s)).alloc (.cells #[.int .i64 s] 3) := ⟨_, rfl⟩
    have hszb : (wb.setCell ⟨g1, s.toNat, none⟩ (.int .i64 s)).heap.size = wb.heap.size := by simp [World.setCell]
    have hgw : g1 < wb.heap.size := World.block_lt_of_cell? wb _ hc1
    have HQU := sA (show Kd.Q (Kd.int .i64) 3 w1 W.heap.size (fun q => q ≠ g1) (.slice (some ⟨wb.heap.size, 0, none⟩) ([s] : List Int).length 1) [s] from by
      have ho := own_lit (wb.setCell ⟨g1, s.toNat, none⟩ (.int .i64 s)) W.heap.size 3 .i64 [s] (by rw [hszb]; exact HB.out.size) (by simp)
      rw [hw1]
      rw [hszb] at ho
      exact Kd.Q_of_R (Kd.R_of_own ho (fun k hk => by simp [Value.ownBlock] at hk; omega)))
    have HBE := sA (show Kd.R (Kd.int .i64) 3 w1 W.heap.size (fun k => k = g1) (.slice (some ⟨g1, 0, none⟩) n c9) (initB n s) from by rw [hw1]; exact Kd.R_alloc (HP.out s).1 _)
    have HB1 := sA (show Below W.heap.size W w1 from by rw [hw1]; exact (HB.out.setCell hbg _).alloc (by rw [hszb]; exact HB.out.size) _)
    rw [← hw1]
    clear hw1 hszb hgw
    have HCg := sA (show Kd.C KT W A n g from by have := (Kd.S_reads' HS.out).2.2; rwa [hgl.out] at this)
    go_cut [11] (fun v11 wc => Aside0 (Kd.R (Kd.int .i64) 3 wc W.heap.size (fun k => k = g1) (.slice (some ⟨g1, 0, none⟩) n c9) (before g s t)) ∧ Aside0 (Below W.heap.size W wc))
    case first =>
     go_wp2_with fail
     go_loopg [11] (n + 1) (fun f v11 wr => ∃ (b q : List Int) (Aq : Option Addr) (cq : Nat), v11 = .slice Aq q.length cq ∧ Aside0 (before g s t = bfs g t f (b, q)) ∧ Aside0 (unv b + q.length < f ∧ f ≤ n + 1) ∧ Aside0 (BI g n s b q (fun _ _ => True)) ∧ Aside0 (Kd.R (Kd.int .i64) 3 wr W.heap.size (fun k => k = g1) (.slice (some ⟨g1, 0, none⟩) n c9) b) ∧ Aside0 (Kd.Q (Kd.int .i64) 3 wr W.heap.size (fun q => q ≠ g1) (.slice Aq q.length cq) q) ∧ Aside0 (Below W.heap.size W wr))
     case atStart =>
      refine ⟨initB n s, [s], _, _, rfl, ⟨by rw [before, hgl.out]⟩, ⟨?_⟩, HI, HBE, HQU, HB1⟩
      have := unv_set (List.replicate n (-1)) s.toNat s (by simp; omega) (by simp) s0
      rw [unv_replicate] at this
      refine ⟨?_, Nat.le_refl _⟩
      show unv (initB n s) + 1 < n + 1
      unfold initB
      omega
     case round =>
      clear HBE HQU HB1 HI HO2 HP hc1 hf1 HB
      obtain ⟨b, q, Aq, cq, rfl, hE, hU, hBI, HR, HQ2, HB⟩ := hrel
      cases gk with
      | zero => exact absurd hU.out.1 (by omega)
      | succ f1 =>
       obtain ⟨wo, rfl⟩ : ∃ wo : World, wo = wr := ⟨_, rfl⟩
       obtain ⟨g2, e, hct, _, _, _⟩ := row_at HR.out t t0 (by rw [hBI.out.len]; exact t1)
       injection e with e
       injection e with e1 _ _
       subst e1
       cases q with
       | nil =>
        have hfin : Aside0 (before g s t = b) := ⟨by rw [hE.out, bfs]⟩
        go_wp2_with fail
        go_meet
        case rel => exact ⟨⟨by rw [hfin.out]; exact HR.out⟩, HB⟩
       | cons x q =>
        by_cases hbt : rd b t < 0
        · have hbtb : decide (rd b t < 0) = true := decide_eq_true hbt
          have hE2 : Aside0 (before g s t = bfs g t f1 (scanTo x (rd_L1 g x) (b, q) n)) := ⟨by rw [hE.out, bfs]; simp only [if_pos hbt]; rw [hgl.out]⟩
          have hxi := hBI.out.qin x List.mem_cons_self
          have hscan := fun kk hkk => (hBI.out.scan s0 s1 kk hkk)
          have HSC := sA hscan
          have HBI2 := sA (hBI.out.scanned s0 s1)
          obtain ⟨x0, x1, xb⟩ := hxi
          obtain ⟨adq, e, hxq⟩ := Kd.at_int (Kd.Q_reads' HQ2.out).2.2 0 (by omega) (by simp)
          cases e
          rw [show (0 : Int).toNat = 0 from rfl, Go.Addr.add_zero', show rd (x :: q) 0 = x from rfl] at hxq
          obtain ⟨i0, hi0, _, hsz0, _⟩ := info_parts info3
          have hcut := cut_from (P := Try.prog) 31 3 .i64 Try.underlying31 hi0 1 hsz0 (some adq) (q.length + 1) cq 1 (by omega) (by omega)
          have hdr := Kd.Q_drop (k := 1) HQ2.out (by simp)
          have hcq1 : 1 ≤ cq := by have := (Kd.Q_reads' HQ2.out).2.1; simp at this; omega
          rw [show (1 : Int).toNat = 1 from rfl] at hcut
          obtain ⟨Aq1, hAq1⟩ : ∃ A1, A1 = (if cq = 1 then some adq else (some adq : Option Addr).map (·.add (1 * 1))) := ⟨_, rfl⟩
          obtain ⟨cq1, hcq⟩ : ∃ c1, c1 = cq - 1 := ⟨_, rfl⟩
          have HQ3 := sA (show Kd.Q (Kd.int .i64) 3 wo W.heap.size (fun q => q ≠ g1) (.slice Aq1 q.length cq1) q from by rw [hAq1, hcq]; exact hdr)
          rw [← hAq1, ← hcq, show q.length + 1 - 1 = q.length from by omega] at hcut
          obtain ⟨adg, A1, c1, e, hxW, _, hiW⟩ := at_L1 HCg.out x x0 x1
          cases e
          have hxg := (HB.out.cell (World.block_lt_of_cell? W _ hxW)).trans hxW
          have hrl : (rd_L1 g x).length = n := HQ.out.2 x x0 x1
          obtain ⟨row, hrow⟩ : ∃ row, row = rd_L1 g x := ⟨_, rfl⟩
          rw [← hrow] at hxg hiW hrl hE2 HSC HBI2
          rw [hrl] at hxg hiW
          have HRL := sA hrl
          have HIW := sA hiW
          clear hrow hrl hiW hxW hdr hAq1 hcq hi0 hsz0 hbt hscan hE
          have hxn : x < (n : Int) := x1
          go_wp2_with fail
          go_loopw [11, 55] (fun v11 v55 wr => ∃ (k : Nat) (b' q' : List Int) (Aq' : Option Addr) (cq' : Nat), v55 = .int .i64 k ∧ v11 = .slice Aq' q'.length cq' ∧ Aside0 (k ≤ n) ∧ Aside0 (scanTo x row (b, q) k = (b', q')) ∧ Aside0 (Kd.R (Kd.int .i64) 3 wr W.heap.size (fun k => k = g1) (.slice (some ⟨g1, 0, none⟩) n c9) b') ∧ Aside0 (Kd.Q (Kd.int .i64) 3 wr W.heap.size (fun q => q ≠ g1) (.slice Aq' q'.length cq') q') ∧ Aside0 (Below W.heap.size W wr)) (fun _ v55 _ => n - (intOf v55).toNat)
          case atStart => exact ⟨0, b, q, Aq1, cq1, rfl, rfl, ⟨by omega⟩, ⟨rfl⟩, HR, HQ3, HB⟩
          case round =>
           clear HQ3 HR HB HQ2 hxg hcut hxq hct
           obtain ⟨k, b', q', Aq', cq', rfl, rfl, hk, hsc, HR, HQ2, HB⟩ := hrel
           obtain ⟨wi, rfl⟩ : ∃ wo : World, wo = wr := ⟨_, rfl⟩
           have hkn := hk.out
           by_cases hlt : k < n
           · have hlb : decide ((k : Int) < (n : Int)) = true := decide_eq_true (by omega)
             obtain ⟨adr, e, hxr⟩ := Kd.at_int (Kd.C_below HIW.out HB.out) k (by omega) (by omega)
             cases e
             have hs1' := HSC.out k hkn
             rw [hsc.out] at hs1'
             have hb'l : b'.length = n := hs1'.1.len
             obtain ⟨g3, e, hcy, hfy, hbgy, hput⟩ := row_at HR.out k (by omega) (by rw [hb'l]; omega)
             injection e with e
             injection e with e1 _ _
             subst e1
             have HP3 := sA hput
             rw [Int.toNat_natCast] at hxr hcy hfy HP3
             have hstep : Aside0 (scanTo x row (b, q) (k + 1) = scanStep x row (b', q') k) := ⟨by rw [scanTo, hsc.out]⟩
             have hq'n : q'.length ≤ 2000 := by
              have h3 := hs1'.2.2
              have h4 := hU.out
              simp at h4
              have h5 : unv b' + q'.length = unv b + q.length := h3
              omega
             clear hs1' hput
             by_cases hc : 0 < rd row k
             · have hcb : decide (0 < rd row k) = true := decide_eq_true hc
               by_cases hy : rd b' k < 0
               · have hyb : decide (rd b' k < 0) = true := decide_eq_true hy
                 have hst2 : Aside0 (scanTo x row (b, q) (k + 1) = (b'.set k x, q' ++ [(k : Int)])) := ⟨by rw [hstep.out, scanStep]; simp only [if_pos (And.intro hc hy)]⟩
                 have hgi : g1 < wi.heap.size := World.block_lt_of_cell? wi _ hcy
                 have HB5 := sA (HB.out.setCell (p := ⟨g1, k, none⟩) hbgy (.int .i64 x))
                 have HQ5 := sA (Kd.Q_far (p := ⟨g1, k, none⟩) HQ2.out (fun k hk => hk) (.int .i64 x))
                 have HR5 := sA (HP3.out x).1
                 clear hc hy
                 obtain ⟨w5, hw5⟩ : ∃ w5, w5 = wi.setCell ⟨g1, k, none⟩ (.int .i64 x) := ⟨_, rfl⟩
                 rw [← hw5] at HB5 HQ5 HR5
                 have hsz5 : g1 < w5.heap.size := by rw [hw5]; simpa [World.setCell] using hgi
                 have HSZ := sA hsz5
                 have HW5 := sA hw5
                 clear hw5
                 go_upto_region 17 with (fail)
                 rw [← HW5.out]
                 go_wp2_with (first | ((with_reducible refine gate_builtin (b := .append) (xs := #[.tmp 73, .tmp 75]) rfl ?_); at_builtin; refine Kd.Q_append (Kd.int .i64) (w0 := W) W.heap.size rfl (.tmp 73) (.tmp 75) 31 3 (.int .i64 0) 8 rfl Try.underlying31 info3 rfl (by decide) (by omega) (.slice Aq' q'.length cq') q' (k : Int) [.int .i64 (k : Int)] (fun q => q ≠ g1) (fun _ => False) rfl rfl ?aP (fun _ hk => hk.elim) ?aF ?aO ?aB ?aS ?aL ?_; (case aP => exact rfl); (case aB => exact HB5.out); (case aF => exact (fun k hk => by have := HSZ.out; show k ≠ g1; omega)); (case aO => exact HQ5.out); (case aS => exact HB5.out.size); (case aL => omega); intro v1 w6 ho hb hg hat; obtain ⟨Ao, co, eo⟩ : ∃ A c, v1 = .slice A (q' ++ [(k : Int)]).length c := (by obtain ⟨A, c, e, _⟩ := Kd.Q_slice ho; exact ⟨A, c, e⟩); subst eo; have HR6 := sA (Kd.R_grown HR5.out hg (fun k hk e => by have hk' : k = g1 := hk; rw [hk'] at e; exact HQ5.out.1 _ e.symm rfl)); have HQ6 := sA ho; have HB6 := sA hb; clear ho hb hg hat))
                 go_roundw
                 case rel => exact ⟨k + 1, b'.set k x, q' ++ [(k : Int)], Ao, co, by go_num, by simp, ⟨by omega⟩, hst2, HR6, HQ6, HB6⟩
                 case measure => simp [intOf]; omega
               · have hyb : decide (rd b' k < 0) = false := decide_eq_false hy
                 have hst2 : Aside0 (scanTo x row (b, q) (k + 1) = (b', q')) := ⟨by rw [hstep.out, scanStep]; simp only [if_neg (fun h : 0 < rd row k ∧ rd b' k < 0 => hy h.2)]⟩
                 clear hc hy
                 go_wp2_with fail
                 go_roundw
                 case rel => exact ⟨k + 1, b', q', Aq', cq', by go_num, rfl, ⟨by omega⟩, hst2, HR, HQ2, HB⟩
                 case measure => simp [intOf]; omega
             · have hcb : decide (0 < rd row k) = false := decide_eq_false hc
               have hst2 : Aside0 (scanTo x row (b, q) (k + 1) = (b', q')) := ⟨by rw [hstep.out, scanStep]; simp only [if_neg (fun h : 0 < rd row k ∧ rd b' k < 0 => hc h.1)]⟩
               clear hc
               go_wp2_with fail
               go_roundw
               case rel => exact ⟨k + 1, b', q', Aq', cq', by go_num, rfl, ⟨by omega⟩, hst2, HR, HQ2, HB⟩
               case measure => simp [intOf]; omega
           · have hlb : decide ((k : Int) < (n : Int)) = false := decide_eq_false (by omega)
             obtain rfl : k = n := by omega
             have hsc2 := (HSC.out k (Nat.le_refl _)).2.2
             rw [hsc.out] at hE2 HBI2 hsc2
             go_wp2_with fail
             go_roundg f1
             case measure => omega
             case rel => exact ⟨b', q', Aq', cq', rfl, hE2, ⟨by have := hU.out; simp at this hsc2; omega⟩, HBI2, HR, HQ2, HB⟩
        · have hbtb : decide (rd b t < 0) = false := decide_eq_false hbt
          have hfin : Aside0 (before g s t = b) := ⟨by rw [hE.out, bfs]; simp only [if_neg hbt]⟩
          go_wp2_with fail
          go_meet
          case rel => exact ⟨⟨by rw [hfin.out]; exact HR.out⟩, HB⟩
    case rest =>
     clear HBE HQU HB1 HI HO2 HP hc1 hf1 HB
     obtain ⟨HR, HB⟩ := hcut
     have hend := bfs_end (t := t) hgl.out s0 s1 (n + 1) (initB n s) [s] (BI.init g n s s0 s1) (by
       have := unv_set (List.replicate n (-1)) s.toNat s (by simp; omega) (by simp) s0
       rw [unv_replicate] at this
       show unv (initB n s) + 1 < n + 1
       unfold initB
       omega)
     have hbef : before g s t = bfs g t (n + 1) (initB n s, [s]) := by rw [before, hgl.out]
     rw [← hbef] at hend
     have haug : Aside0 (augG g s t l = if rd (before g s t) t < 0 then (g, 0) else (push g (lim g (trail (before g s t) s n t) l) (trail (before g s t) s n t), lim g (trail (before g s t) s n t) l)) := ⟨by rw [augG, hgl.out]⟩
     obtain ⟨b, hb⟩ : ∃ b, b = before g s t := ⟨_, rfl⟩
     rw [← hb] at hend haug HR
     clear hbef hb
     obtain ⟨q', hBI, _⟩ := hend
     have hbl := sA hBI.len
     obtain ⟨rk, m, hm, htree⟩ := hBI.tree
     have HT := sA htree
     have HRG := sA hBI.rng
     obtain ⟨g2, e, hct, _, _, _⟩ := row_at HR.out t t0 (by rw [hbl.out]; exact t1)
     injection e with e
     injection e with e1 _ _
     subst e1
     have hmn : m ≤ n := by omega
     clear htree hBI hm
     by_cases hbt : rd b t < 0
     · have hbtb : decide (rd b t < 0) = true := decide_eq_true hbt
       have hfin : Aside0 (augG g s t l = (g, 0)) := ⟨by rw [haug.out, if_pos hbt]⟩
       clear hbt
       go_wp2_with fail
       go_ret
       exact ⟨by rw [hfin.out]; rfl, by rw [hfin.out]; exact Kd.S_mono (Kd.S_below HS.out HB.out) (fun k hk => (HOK.out k hk).1), Fr.of_below HB.out⟩
     · have hbtb : decide (rd b t < 0) = false := decide_eq_false hbt
       obtain ⟨es, hes⟩ : ∃ es, es = trail b s n t := ⟨_, rfl⟩
       have hfin : Aside0 (augG g s t l = (push g (lim g es l) es, lim g es l)) := ⟨by rw [haug.out, if_neg hbt, hes]⟩
       have hes' := sA hes
       have htv : 0 ≤ rd b t := by omega
       have htr := (HT.out t t0 t1 htv).1
       clear hbt haug hes
       go_wp2_with fail
       go_loopg [3, 15] n (fun f v3 v15 wr => ∃ (l' y : Int), v3 = .int .i64 l' ∧ v15 = .int .i64 y ∧ Aside0 (lim g es l = lim g (trail b s f y) l') ∧ Aside0 (0 ≤ y ∧ y < n ∧ 0 ≤ rd b y ∧ rk y < f) ∧ Aside0 (wr = wc))
       case atStart => exact ⟨l, t, rfl, rfl, ⟨by rw [hes'.out]⟩, ⟨⟨t0, t1, htv, by omega⟩⟩, ⟨rfl⟩⟩
       case round =>
        clear hct
        obtain ⟨l', y, rfl, rfl, hE, hY, hw⟩ := hrel
        obtain rfl := hw.out
        obtain ⟨y0, y1, yv, yr⟩ := hY.out
        cases gk with
        | zero => exact absurd yr (by omega)
        | succ f1 =>
         by_cases hys : y = s
         · have hysb : (y != s) = false := bne_eq_false_iff_eq.2 hys
           have hL : Aside0 (lim g es l = l') := ⟨by rw [hE.out, trail, if_pos hys]; rfl⟩
           clear hys hw
           obtain ⟨d, hd⟩ : ∃ d, d = lim g es l := ⟨_, rfl⟩
           rw [← hd] at hL hfin
           obtain rfl : l' = d := hL.out.symm
           clear hL hE hd yr y0 y1 yv hY
           have HS1 := sA (Kd.S_below HS.out HB.out)
           have HF1 := sA (Fr.of_below (ok := ok) HB.out)
           obtain ⟨wc, rfl⟩ : ∃ wo : World, wo = wr := ⟨_, rfl⟩
           go_wp2_with fail
           go_loopg [16] n (fun f v16 wr => ∃ (y : Int) (G : List (List Int)), v16 = .int .i64 y ∧ Aside0 (push g l' es = push G l' (trail b s f y)) ∧ Aside0 (0 ≤ y ∧ y < n ∧ 0 ≤ rd b y ∧ rk y < f) ∧ Aside0 (Sqn n G) ∧ Aside0 (Kd.S KT 31 wr base okg (.slice A n c) G) ∧ Aside0 (Kd.R (Kd.int .i64) 3 wr W.heap.size (fun k => k = g1) (.slice (some ⟨g1, 0, none⟩) n c9) b) ∧ Aside0 (Fr ok W wr))
           case atStart => exact ⟨t, g, rfl, ⟨by rw [hes'.out]⟩, ⟨⟨t0, t1, htv, by omega⟩⟩, HQ, HS1, HR, HF1⟩
           case round =>
            clear HS1 HF1 HR HB
            obtain ⟨y, G, rfl, hE, hY, HQG, HSG, HR, HF⟩ := hrel
            obtain ⟨we, rfl⟩ : ∃ wo : World, wo = wr := ⟨_, rfl⟩
            obtain ⟨y0, y1, yv, yr⟩ := hY.out
            cases gk with
            | zero => exact absurd yr (by omega)
            | succ f2 =>
             by_cases hys : y = s
             · have hysb : (y != s) = false := bne_eq_false_iff_eq.2 hys
               have hL : Aside0 (push g l' es = G) := ⟨by rw [hE.out, trail, if_pos hys]; rfl⟩
               clear hys
               go_wp2_with fail
               go_ret
               exact ⟨by rw [hfin.out]; rfl, by rw [hfin.out]; show Kd.S KT 31 we base ok (.slice A n c) (push g l' es); rw [hL.out]; exact Kd.S_mono HSG.out (fun k hk => (HOK.out k hk).1), HF.out⟩
             · have hysb : (y != s) = true := bne_iff_ne.2 hys
               obtain ⟨p0, pr, pe⟩ := (HT.out y y0 y1 yv).2 hys
               have pv := HRG.out y y0 y1
               obtain ⟨p, hp⟩ : ∃ p, p = rd b y := ⟨_, rfl⟩
               have hE2 : Aside0 (push g l' es = push (pushE G l' (p, y)) l' (trail b s f2 p)) := ⟨by rw [hE.out, trail, if_neg hys, ← hp]; rfl⟩
               obtain ⟨g2, e, hcy, hgyf, hgyb, _⟩ := row_at HR.out y y0 (by rw [hbl.out]; exact y1)
               injection e with e
               injection e with e1 _ _
               subst e1
               have HP := sA hp
               rw [← hp] at hcy yv p0 pr pv
               have p1 : p < (n : Int) := pv.2
               have hA6 : ∃ x, A = some x := by
                obtain ⟨A', c', e, hle, hC⟩ := Kd.S_reads HSG.out
                injection e with e1 e2 e3
                obtain ⟨ad', _, _, e9, _⟩ := at_L1 hC y y0 (by rw [HQG.out.1]; exact y1)
                exact ⟨ad', by rw [e1, e9]⟩
               obtain ⟨A, rfl⟩ := hA6
               have hyr : y < ((rd_L1 G p).length : Int) := by rw [HQG.out.2 p yv p1]; exact y1
               obtain ⟨g2, d2, s0', s1', s2', s3', ⟨s6, _⟩, s5⟩ := tab_at HSG.out p y yv (by rw [HQG.out.1]; exact p1) y0 hyr
               have S5 := sA s5
               have S6 := sA s6
               clear hys hp hE s5 s6
               go_wp2_with fail
               obtain ⟨w5, hw5⟩ : ∃ w5, w5 = we.setCell ⟨g2, y.toNat, none⟩ (.int .i64 (wrap64 (rd (rd_L1 G p) y - l'))) := ⟨_, rfl⟩
               rw [← hw5]
               obtain ⟨G1, hG1⟩ : ∃ G1, G1 = upd G p y (wrap64 (get G p y - l')) := ⟨_, rfl⟩
               have hE3 : Aside0 (push g l' es = push (upd G1 y p (wrap64 (get G1 y p + l'))) l' (trail b s f2 p)) := ⟨by rw [hE2.out, hG1]; rfl⟩
               have HQ1 := sA (show Sqn n G1 from by rw [hG1]; exact HQG.out.upd _ _ _)
               have HSG5 := sA (show Kd.S KT 31 w5.drew base okg (.slice (some A) n c) G1 from by rw [hw5, hG1]; exact Kd.S_drew (S5.out _).1)
               have hg12 : Aside0 (g1 ≠ g2) := ⟨by have := (HOK.out g2 S6.out).2; omega⟩
               have HR5 := sA (show Kd.R (Kd.int .i64) 3 w5.drew W.heap.size (fun k => k = g1) (.slice (some ⟨g1, 0, none⟩) n c9) b from by rw [hw5]; exact Kd.R_drew (Kd.R_far HR.out (fun k hk => by have hk' : k = g1 := hk; rw [hk']; exact hg12.out) _))
               have HF5 := sA (show Fr ok W w5.drew from by rw [hw5]; exact (HF.out.setCell (.inl (HOK.out g2 S6.out).1) _).drew)
               clear hw5 hG1 HSG HR HF hcy hgyf s0' s1' s2' S5 hE2
               refine wp_region_still_tail 13 (by kernel_rfl) (by kernel_rfl) ?_
               change wpStill _ _ w5.drew (fun a' => wpList _ _ _ _ a' w5.drew) _ _
               generalize w5.drew = w6 at HSG5 HR5 HF5 ⊢
               obtain ⟨g3, e, hcy, _, _, _⟩ := row_at HR5.out y y0 (by rw [hbl.out]; exact y1)
               injection e with e
               injection e with e1 _ _
               subst e1
               rw [← HP.out] at hcy
               have hpr2 : p < ((rd_L1 G1 y).length : Int) := by rw [HQ1.out.2 y y0 y1]; exact p1
               obtain ⟨g4, d4, t0', t1', t2', t3', ⟨t6, _⟩, t5⟩ := tab_at HSG5.out y p y0 (by rw [HQ1.out.1]; exact y1) yv hpr2
               have T5 := sA t5
               have T6 := sA t6
               clear t5 t6
               simp only [List.take_succ_cons, List.take_zero, List.drop_succ_cons, List.drop_zero]
               repeat still_step
               refine wpStill_nil ?_
               go_upto_region 27 with (fail)
               obtain ⟨w7, hw7⟩ : ∃ w7, w7 = w6.setCell ⟨g4, p.toNat, none⟩ (.int .i64 (wrap64 (rd (rd_L1 G1 y) p + l'))) := ⟨_, rfl⟩
               rw [← hw7]
               have HSG7 := sA (show Kd.S KT 31 w7 base okg (.slice (some A) n c) (upd G1 y p (wrap64 (get G1 y p + l'))) from by rw [hw7]; exact (T5.out _).1)
               have hg14 : Aside0 (g1 ≠ g4) := ⟨by have := (HOK.out g4 T6.out).2; omega⟩
               have HR7 := sA (show Kd.R (Kd.int .i64) 3 w7 W.heap.size (fun k => k = g1) (.slice (some ⟨g1, 0, none⟩) n c9) b from by rw [hw7]; exact Kd.R_far HR5.out (fun k hk => by have hk' : k = g1 := hk; rw [hk']; exact hg14.out) _)
               have HF7 := sA (show Fr ok W w7 from by rw [hw7]; exact HF5.out.setCell (.inl (HOK.out g4 T6.out).1) _)
               clear hw7 HSG5 HR5 HF5 hcy t0' t1' t2' T5
               obtain ⟨g5, e, hcy, _, _, _⟩ := row_at HR7.out y y0 (by rw [hbl.out]; exact y1)
               injection e with e
               injection e with e1 _ _
               subst e1
               rw [← HP.out] at hcy
               go_wp2_with fail
               go_roundg f2
               case measure => omega
               case rel => exact ⟨p, _, rfl, hE3, ⟨⟨yv, p1, p0, by omega⟩⟩, ⟨HQ1.out.upd _ _ _⟩, HSG7, HR7, HF7⟩
         · have hysb : (y != s) = true := bne_iff_ne.2 hys
           obtain ⟨p0, pr, pe⟩ := (HT.out y y0 y1 yv).2 hys
           have pv := HRG.out y y0 y1
           obtain ⟨p, hp⟩ : ∃ p, p = rd b y := ⟨_, rfl⟩
           have hE2 : Aside0 (lim g es l = lim g (trail b s f1 p) (min l' (get g p y))) := ⟨by rw [hE.out, trail, if_neg hys, ← hp]; rfl⟩
           obtain ⟨g2, e, hcy, _, _, _⟩ := row_at HR.out y y0 (by rw [hbl.out]; exact y1)
           injection e with e
           injection e with e1 _ _
           subst e1
           rw [← hp] at hcy yv p0 pr pv
           have p1 : p < (n : Int) := pv.2
           obtain ⟨adg, A1, c1, e, hxg, _, hi⟩ := at_L1 (Kd.C_below HCg.out HB.out) p yv p1
           cases e
           have hrl := HQ.out.2 p yv p1
           obtain ⟨adr, e, hxr⟩ := Kd.at_int hi y y0 (by rw [hrl]; exact y1)
           cases e
           have hyr : y < ((rd_L1 g p).length : Int) := by rw [hrl]; exact y1
           have hmin : Aside0 ((if rd (rd_L1 g p) y < l' then rd (rd_L1 g p) y else l') = min l' (get g p y)) := ⟨by unfold get; split <;> omega⟩
           clear hys hi hrl hp hE hw
           by_cases hlt : rd (rd_L1 g p) y < l'
           · have hfm : Aside0 (min l' (get g p y) = rd (rd_L1 g p) y) := ⟨by rw [← hmin.out, if_pos hlt]⟩
             rw [hfm.out] at hE2
             clear hmin hfm
             go_wp2_with fail
             go_roundg f1
             case measure => omega
             case rel => exact ⟨_, p, rfl, rfl, hE2, ⟨⟨yv, p1, p0, by omega⟩⟩, ⟨rfl⟩⟩
           · have hfm : Aside0 (min l' (get g p y) = l') := ⟨by rw [← hmin.out, if_neg hlt]⟩
             rw [hfm.out] at hE2
             clear hmin hfm
             go_wp2_with fail
             go_roundg f1
             case measure => omega
             case rel => exact ⟨_, p, rfl, rfl, hE2, ⟨⟨yv, p1, p0, by omega⟩⟩, ⟨rfl⟩⟩
end Go.Proofs.Ytdljbmgknhbceaa.A
namespace Go.Proofs.Ytdljbmgknhbceaa.A
open Go.RowKit Go.Proofs.YtdljbmgknhbceaaW.PrintWords Go.Proofs.YtdljbmgknhbceaaW.PrintLast Go.Proofs.YtdljbmgknhbceaaW.PrintMore Go.Proofs.Ytdljbmgknhbceaa.Q
theorem pushE_sq {n : Nat} {g : List (List Int)} (h : Sqn n g) (d : Int) (e : Int × Int) : Sqn n (pushE g d e) := (h.upd _ _ _).upd _ _ _
theorem push_sq {n : Nat} (d : Int) : ∀ (es : List (Int × Int)) (g : List (List Int)), Sqn n g → Sqn n (push g d es)
 | [], g, h => h
 | e :: es, g, h => push_sq d es _ (pushE_sq h d e)
theorem augG_sq {n : Nat} {g : List (List Int)} (h : Sqn n g) (s t l : Int) : Sqn n (augG g s t l).1 := by
 unfold augG
 simp only []
 split
 · exact h
 · exact push_sq _ _ _ h
theorem lim_le (g : List (List Int)) : ∀ (es : List (Int × Int)) (l : Int), lim g es l ≤ l
 | [], l => Int.le_refl _
 | e :: es, l => by
  rw [lim]
  have := lim_le g es (min l (get g e.1 e.2))
  omega
theorem lim_trail {g : List (List Int)} {n : Nat} {s : Int} {b q : List Int} {cl : Int → Int → Prop} (h : BI g n s b q cl) {rk : Int → Nat} {m : Nat} (ht : ∀ y : Int, 0 ≤ y → y < n → 0 ≤ rd b y → rk y < m ∧ (y ≠ s → 0 ≤ rd b (rd b y) ∧ rk (rd b y) < rk y ∧ 0 < get g (rd b y) y)) :
 ∀ (f : Nat) (y l : Int), 0 ≤ y → y < n → 0 ≤ rd b y → 0 < l → 0 < lim g (trail b s f y) l := by
 intro f
 induction f with
 | zero => intro y l _ _ _ hl; exact hl
 | succ f ih =>
  intro y l y0 y1 yv hl
  rw [trail]
  split
  · exact hl
  · rename_i hys
    obtain ⟨p0, _, pe⟩ := (ht y y0 y1 yv).2 hys
    have := h.rng y y0 y1
    rw [lim]
    exact ih (rd b y) _ yv this.2 p0 (by simp only []; omega)
theorem augG_pos {n : Nat} {g : List (List Int)} (h : Sqn n g) (s t l : Int) (s0 : 0 ≤ s) (s1 : s < n) (t0 : 0 ≤ t) (t1 : t < n) (hl : 0 < l) : 0 ≤ (augG g s t l).2 ∧ (augG g s t l).2 ≤ l := by
 have hend := bfs_end (t := t) h.1 s0 s1 (n + 1) (initB n s) [s] (BI.init g n s s0 s1) (by
   have := unv_set (List.replicate n (-1)) s.toNat s (by simp; omega) (by simp) s0
   rw [unv_replicate] at this
   show unv (initB n s) + 1 < n + 1
   unfold initB
   omega)
 have hbef : before g s t = bfs g t (n + 1) (initB n s, [s]) := by rw [before, h.1]
 rw [← hbef] at hend
 obtain ⟨q, hB, _⟩ := hend
 obtain ⟨rk, m, _, ht⟩ := hB.tree
 unfold augG
 simp only []
 split
 · simp only []; omega
 · rename_i hv
   have := lim_trail hB ht g.length t l t0 t1 (by omega) hl
   have := lim_le g (trail (before g s t) s g.length t) l
   simp only []
   omega
set_option maxHeartbeats 4000000 in
set_option maxRecDepth 100000 in
theorem flow_any (n : Nat) (A : Option Addr) (c : Nat) (g : List (List Int)) (s t l : Int) (W : World) (base : Nat) (ok : Nat → Prop) (hs : Kd.S KT 31 W base ok (.slice A n c) g) (hq : Sqn n g) (hn : n ≤ 1000)
 (s0 : 0 ≤ s) (s1 : s < n) (t0 : 0 ≤ t) (t1 : t < n) (hl0 : 0 ≤ l) (hl1 : l ≤ 1125899906842624) :
 Calls Try.prog 50 #[.slice A n c, .int .i64 s, .int .i64 t, .int .i64 l] W fun e w' => e = .returned (.int .i64 (flowG s t l l.toNat g 0).2) ∧ Kd.S KT 31 w' base ok (.slice A n c) (flowG s t l l.toNat g 0).1 ∧ Fr ok W w' := by
 have HS := sA hs
 have HQ := sA hq
 clear hs hq
 go_enter Try.func50, Try.ntmps50
 go_wp2_with fail
 go_loopg [9] l.toNat (fun f v9 wr => ∃ (sent : Int) (G : List (List Int)), v9 = .int .i64 sent ∧ Aside0 (flowG s t l l.toNat g 0 = flowG s t l f G sent) ∧ Aside0 (0 ≤ sent ∧ (l - sent).toNat ≤ f ∧ sent ≤ l) ∧ Aside0 (Sqn n G) ∧ Aside0 (Kd.S KT 31 wr base ok (.slice A n c) G) ∧ Aside0 (Fr ok W wr))
 case atStart => exact ⟨0, g, rfl, ⟨rfl⟩, ⟨⟨by omega, by omega, hl0⟩⟩, HQ, HS, ⟨Fr.of_below (Below.refl _ _)⟩⟩
 case round =>
  clear HS
  obtain ⟨sent, G, rfl, hE, hb, HQG, HSG, HF⟩ := hrel
  obtain ⟨b0, b1, b2⟩ := hb.out
  by_cases hlt : sent < l
  · have hlb : decide (sent < l) = true := decide_eq_true hlt
    cases gk with
    | zero => omega
    | succ f =>
     have hr := augG_pos HQG.out s t (l - sent) s0 s1 t0 t1 (by omega)
     obtain ⟨r, hr2⟩ : ∃ r, r = augG G s t (l - sent) := ⟨_, rfl⟩
     have hE2 : Aside0 (flowG s t l l.toNat g 0 = if r.2 = 0 then (r.1, sent) else flowG s t l f r.1 (sent + r.2)) := ⟨by rw [hE.out, flowG, if_pos hlt, hr2]⟩
     have HQ2 := sA (show Sqn n r.1 from by rw [hr2]; exact augG_sq HQG.out _ _ _)
     have HR := sA hr2
     rw [← hr2] at hr
     obtain ⟨r0, r1⟩ := hr
     obtain ⟨G', x⟩ := r
     simp only at r0 r1 hE2 HQ2
     have HX1 := sA (show (augG G s t (l - sent)).1 = G' from by rw [← HR.out])
     have HX2 := sA (show (augG G s t (l - sent)).2 = x from by rw [← HR.out])
     clear HR hr2 hlt hE
     by_cases hx : x = 0
     · have hxb : (x == 0) = true := beq_iff_eq.2 hx
       rw [if_pos hx] at hE2
       clear hx
       go_wp2_with (go_at_call 67; refine (augment_any n A c G s t (l - sent) _ base ok HSG.out HQG.out hn s0 s1 t0 t1).mono ?_; rw [HX1.out, HX2.out]; rintro e w1 ⟨rfl, hS, hF⟩; have HS1 := sA hS; have HF1 := sA (HF.out.trans hF); clear hS hF)
       go_ret
       exact ⟨by rw [hE2.out]; rfl, by rw [hE2.out]; exact HS1.out, HF1.out⟩
     · have hxb : (x == 0) = false := beq_eq_false_iff_ne.2 hx
       rw [if_neg hx] at hE2
       have hx1 : 1 ≤ x := by omega
       clear hx
       go_wp2_with (go_at_call 67; refine (augment_any n A c G s t (l - sent) _ base ok HSG.out HQG.out hn s0 s1 t0 t1).mono ?_; rw [HX1.out, HX2.out]; rintro e w1 ⟨rfl, hS, hF⟩; have HS1 := sA hS; have HF1 := sA (HF.out.trans hF); clear hS hF)
       go_roundg f
       case measure => omega
       case rel => exact ⟨sent + x, G', rfl, hE2, ⟨⟨by omega, by omega, by omega⟩⟩, HQ2, HS1, HF1⟩
  · have hlb : decide (sent < l) = false := decide_eq_false hlt
    have hfin : Aside0 (flowG s t l l.toNat g 0 = (G, sent)) := ⟨by
      rw [hE.out]
      cases gk with
      | zero => rfl
      | succ f => rw [flowG, if_neg hlt]⟩
    clear hlt
    go_wp2_with fail
    go_ret
    exact ⟨by rw [hfin.out]; rfl, by rw [hfin.out]; exact HSG.out, HF.out⟩
end Go.Proofs.Ytdljbmgknhbceaa.A
namespace Go.Proofs.Ytdljbmgknhbceaa.A
open Go.RowKit Go.Proofs.YtdljbmgknhbceaaW.PrintWords Go.Proofs.YtdljbmgknhbceaaW.PrintLast Go.Proofs.YtdljbmgknhbceaaW.PrintMore Go.Proofs.Ytdljbmgknhbceaa.Q
theorem tab_row {W0 W1 : World} {base : Nat} {ok : Nat → Prop} {A : Option Addr} {n cap : Nat} {t : List (List Int)} {v : Value} {row : List Int} (h : Kd.S KT 31 W0 base ok (.slice A n cap) t) (hb : Below W0.heap.size W0 W1) (hr : Kd.R (Kd.int .i64) 3 W1 W0.heap.size (fun _ => True) v row)
 (hbase : base ≤ W0.heap.size) (hok : ∀ k, W0.heap.size ≤ k → ok k) (i : Int) (i0 : 0 ≤ i) (i1 : i < t.length) :
 ∃ g x, A = some ⟨g, 0, none⟩ ∧ W1.cell? ⟨g, i.toNat, none⟩ = some x ∧ W1.frozen? ⟨g, i.toNat, none⟩ = false ∧ base ≤ g ∧ g < W0.heap.size ∧ Kd.S KT 31 (W1.setCell ⟨g, i.toNat, none⟩ v) base ok (.slice A n cap) (t.set i.toNat row) := by
 obtain ⟨hn, _, hC⟩ := Kd.S_reads' h
 obtain ⟨ad, _, _, e, _⟩ := at_L1 hC i i0 (by omega)
 subst e
 obtain ⟨inner, ho⟩ := Kd.S_own h
 rcases ho.2 with ⟨h0, _⟩ | ⟨g, cap', cur, he, hbg, hh, _⟩
 · cases h0
 · injection he with he1 he2 he3
   injection he1 with he1
   subst he1
   have hgl : g < W0.heap.size := lt_of_block hh
   have hS := Kd.S_mono (Kd.S_bound h) (ok' := fun k => ok k ∧ ¬ (W0.heap.size ≤ k)) (fun k hk => ⟨hk.1, by omega⟩)
   obtain ⟨oki, c, hcl, hM, hcc, hoki, hH⟩ := Kd.S_lend hS ([] : List Int) i i0 (by omega)
   have hH1 := Kd.H_below hH hb
   obtain ⟨hcells, hfr⟩ := Kd.H_at hH1 i0 (by omega)
   obtain ⟨v0, rfl, _⟩ := hM
   have hMn : KT.M W1 base (fun k => W0.heap.size ≤ k) row (([v0] : List Value).take 0 ++ [v] ++ ([v0] : List Value).drop (0 + [v].length)) := by
    refine ⟨v, rfl, ?_⟩
    exact Kd.R_lower (Kd.R_mono (Kd.R_bound hr) (fun k hk => hk.2.1)) hbase
   obtain ⟨s1, _⟩ := Kd.S_seg (okg := fun k => W0.heap.size ≤ k) (seg := [v]) (j := 0) hH1 i0 (by omega) (by simp [KT, Kd.slice]) hMn (fun k hk => .inr hk) (fun k hk => ⟨hok k hk, by omega⟩)
   have e0 : i.toNat * KT.sz + 0 = i.toNat := by simp [KT, Kd.slice]
   refine ⟨g, v0, rfl, ?_, ?_, hbg, hgl, ?_⟩
   · have := hcells 0 _ rfl
     rwa [e0] at this
   · have := hfr 0
     rwa [e0] at this
   · rw [e0] at s1
     exact s1
theorem node47 (d x : Int) (w : World) (hx : x = 2 + d) (d0 : 0 ≤ d) (d1 : d < 1000) : Calls Try.prog 47 #[.int .i64 d] w fun e w' => e = .returned (.int .i64 x) ∧ w' = w := by
 subst hx
 go_enter Try.func47, Try.ntmps47
 go_wp2
 go_ret
 exact ⟨rfl, rfl⟩
theorem node48 (d x : Int) (n b : Nat) (w : World) (hb : w.cell? ⟨b, 0, none⟩ = some (.int .i64 n)) (hx : x = 2 + n + d) (hn : n ≤ 1000) (d0 : 0 ≤ d) (d1 : d < n) : Calls Try.prog 48 #[.int .i64 d, .pointer (some ⟨b, 0, none⟩)] w fun e w' => e = .returned (.int .i64 x) ∧ w' = w := by
 subst hx
 go_enter Try.func48, Try.ntmps48
 go_wp2
 go_ret
 exact ⟨rfl, rfl⟩
theorem node49 (f o x : Int) (n b : Nat) (w : World) (hb : w.cell? ⟨b, 0, none⟩ = some (.int .i64 n)) (hx : x = 2 + 2 * n + f * n + o) (hn : n ≤ 1000) (f0 : 0 ≤ f) (f1 : f < n) (o0 : 0 ≤ o) (o1 : o < n) : Calls Try.prog 49 #[.int .i64 f, .int .i64 o, .pointer (some ⟨b, 0, none⟩)] w fun e w' => e = .returned (.int .i64 x) ∧ w' = w := by
 subst hx
 have h1 : 0 ≤ f * (n : Int) := Int.mul_nonneg f0 (by omega)
 have h2 : f * (n : Int) ≤ 1000000 := Int.le_trans (Int.mul_le_mul (show f ≤ 1000 by omega) (show (n : Int) ≤ 1000 by omega) (by omega) (by omega)) (by omega)
 go_enter Try.func49, Try.ntmps49
 go_wp2
 go_ret
 exact ⟨rfl, rfl⟩
end Go.Proofs.Ytdljbmgknhbceaa.A
namespace Go.Proofs.Ytdljbmgknhbceaa.A
open Go.RowKit Go.Proofs.YtdljbmgknhbceaaW.PrintWords Go.Proofs.YtdljbmgknhbceaaW.PrintLast Go.Proofs.YtdljbmgknhbceaaW.PrintMore Go.Proofs.Ytdljbmgknhbceaa.Q
def okM (n : Nat) (m : S29) : Prop := (0 ≤ m.f0 ∧ m.f0 < n) ∧ (0 ≤ m.f1 ∧ m.f1 < n) ∧ (0 ≤ m.f2 ∧ m.f2 < n)
theorem sTto_range {n : Nat} {has q : List Int} {f o : Int} (hf : 0 ≤ f ∧ f < n) (ho : 0 ≤ o ∧ o < n) {s : List (List Int) × List S29} (h : ∀ m ∈ s.2, okM n m) : ∀ k, k ≤ n → ∀ m ∈ (sTto n has q f o s k).2, okM n m := by
 intro k
 induction k with
 | zero => exact fun _ => h
 | succ k ih =>
  intro hk m hm
  have ih := ih (by omega)
  simp only [sTto, sT] at hm
  split at hm
  · simp only [List.mem_append, List.mem_singleton] at hm
    rcases hm with hm | rfl
    · exact ih m hm
    · exact ⟨hf, ⟨by show (0 : Int) ≤ k; omega, by show (k : Int) < n; omega⟩, ho⟩
  · exact ih m hm
theorem sOto_range {n : Nat} {has q : List Int} {t : List (List Int)} {f : Int} (hf : 0 ≤ f ∧ f < n) {s : List (List Int) × List S29} (h : ∀ m ∈ s.2, okM n m) : ∀ k, k ≤ n → ∀ m ∈ (sOto n has q t f s k).2, okM n m := by
 intro k
 induction k with
 | zero => exact fun _ => h
 | succ k ih =>
  intro hk
  have ih := ih (by omega)
  exact sTto_range hf ⟨by omega, by omega⟩ (s := (upd (sOto n has q t f s k).1 (nodeH f) (nodeP n f (k : Nat)) (get t f (k : Nat)), (sOto n has q t f s k).2)) ih n (Nat.le_refl n)
theorem sFto_range {n : Nat} {has q : List Int} {t : List (List Int)} {s : List (List Int) × Int × List S29} (h : ∀ m ∈ s.2.2, okM n m) : ∀ k, k ≤ n → ∀ m ∈ (sFto n has q t s k).2.2, okM n m := by
 intro k
 induction k with
 | zero => exact fun _ => h
 | succ k ih =>
  intro hk
  have ih := ih (by omega)
  simp only [sFto, sF]
  split
  · exact ih
  · exact sOto_range ⟨by omega, by omega⟩ (s := (upd (sFto n has q t s k).1 0 (nodeH (k : Nat)) (wrap64 (rd has (k : Nat) - rd q (k : Nat))), (sFto n has q t s k).2.2)) ih n (Nat.le_refl n)
theorem flowG_sq {n : Nat} (s t l : Int) : ∀ (f : Nat) (g : List (List Int)) (sent : Int), Sqn n g → Sqn n (flowG s t l f g sent).1 := by
 intro f
 induction f with
 | zero => intro g sent h; exact h
 | succ f ih =>
  intro g sent h
  simp only [flowG]
  repeat' split
  all_goals first | exact h | exact ih _ _ (augG_sq h _ _ _) | exact augG_sq h _ _ _
structure Mvs (w2 wr : World) (N : Nat) (okg okq ok20 : Nat → Prop) (hg2 : Nat) (A13 : Addr) (c13 : Nat) (v16 v20 : Value) (G : List (List Int)) (ord out : List S29) : Prop where
 sg : Kd.S KT 31 wr w2.heap.size okg (.slice (some A13) N c13) G
 sq : Sqn N G
 rq : Kd.R k29 29 wr w2.heap.size okq v16 ord
 ro : Kd.R k29 29 wr w2.heap.size ok20 v20 out
 be : Below w2.heap.size w2 wr
 hg : hg2 ≤ wr.heap.size
 h2 : w2.heap.size ≤ hg2
 hok : ∀ k, okg k → w2.heap.size ≤ k ∧ k < hg2
 hoq : ∀ k, okq k → ¬ okg k ∧ k < hg2
 ho2 : ∀ k, ok20 k → hg2 ≤ k
def Bx (w : World) (bm : Nat) (a0 a1 a2 b : Int) : Prop := w.heap[bm]? = some (.cells #[.int .i64 a0, .int .i64 a1, .int .i64 a2, .int .i64 b] 29 (0, 0))
section
variable {w2 wr w1 : World} {N : Nat} {okg okq ok20 : Nat → Prop} {hg2 : Nat} {A13 : Addr} {c13 : Nat} {v16 v20 v : Value} {G G' : List (List Int)} {ord out out' : List S29} {bm : Nat} {a0 a1 a2 b : Int}
theorem Mvs.drew (h : Mvs w2 wr N okg okq ok20 hg2 A13 c13 v16 v20 G ord out) : Mvs w2 wr.drew N okg okq ok20 hg2 A13 c13 v16 v20 G ord out := ⟨Kd.S_drew h.sg, h.sq, Kd.R_drew h.rq, Kd.R_drew h.ro, below_drew h.be, h.hg, h.h2, h.hok, h.hoq, h.ho2⟩
theorem Mvs.drewN (h : Mvs w2 wr N okg okq ok20 hg2 A13 c13 v16 v20 G ord out) (m : Nat) : Mvs w2 (wr.drewN m) N okg okq ok20 hg2 A13 c13 v16 v20 G ord out := ⟨Kd.S_drewN h.sg m, h.sq, Kd.R_drewN h.rq m, Kd.R_drewN h.ro m, pw_below_drewN h.be m, h.hg, h.h2, h.hok, h.hoq, h.ho2⟩
theorem Mvs.alloc (h : Mvs w2 wr N okg okq ok20 hg2 A13 c13 v16 v20 G ord out) (o : Obj) : Mvs w2 (wr.alloc o) N okg okq (fun k => ok20 k ∧ k ≠ wr.heap.size) hg2 A13 c13 v16 v20 G ord out :=
 ⟨Kd.S_alloc h.sg o, h.sq, Kd.R_alloc h.rq o, Kd.R_mono (Kd.R_alloc (Kd.R_bound h.ro) o) (fun k hk => ⟨hk.1, by have := hk.2.2.1; omega⟩), h.be.alloc h.be.size o, by have := h.hg; simp; omega, h.h2, h.hok, h.hoq, fun k hk => h.ho2 k hk.1⟩
theorem Mvs.weak (h : Mvs w2 wr N okg okq ok20 hg2 A13 c13 v16 v20 G ord out) : Mvs w2 wr N okg okq (fun k => hg2 ≤ k) hg2 A13 c13 v16 v20 G ord out := ⟨h.sg, h.sq, h.rq, Kd.R_mono h.ro h.ho2, h.be, h.hg, h.h2, h.hok, h.hoq, fun _ hk => hk⟩
theorem Mvs.at (h : Mvs w2 wr N okg okq ok20 hg2 A13 c13 v16 v20 G ord out) (i j : Int) (i0 : 0 ≤ i) (i1 : i < N) (j0 : 0 ≤ j) (j1 : j < N) :
 ∃ g d, wr.cell? (A13.add i.toNat) = some (.slice (some ⟨g, 0, none⟩) N d) ∧ wr.cell? ⟨g, j.toNat, none⟩ = some (.int .i64 (get G i j)) ∧ wr.frozen? ⟨g, j.toNat, none⟩ = false ∧ g < hg2 ∧
  ∀ x, Mvs w2 (wr.setCell ⟨g, j.toNat, none⟩ (.int .i64 x)) N okg okq ok20 hg2 A13 c13 v16 v20 (upd G i j x) ord out := by
 have hrl := h.sq.2 i i0 i1
 obtain ⟨g, d, s0, s1, s2, s3, ⟨s4, _⟩, s5⟩ := tab_at h.sg i j i0 (by rw [h.sq.1]; exact i1) j0 (by rw [hrl]; exact j1)
 rw [hrl] at s0
 refine ⟨g, d, s0, s1, s2, (h.hok g s4).2, fun x => ⟨(s5 x).1, h.sq.upd _ _ _, ?_, ?_, h.be.setCell s3 _, by simpa [World.setCell] using h.hg, h.h2, h.hok, h.hoq, h.ho2⟩⟩
 · exact Kd.R_far h.rq (fun k hk => by
     have := (h.hoq k hk).1
     show k ≠ g
     intro e
     exact this (e ▸ s4)) _
 · exact Kd.R_far h.ro (fun k hk => by
     have := h.ho2 k hk
     have h1 := (h.hok g s4).2
     show k ≠ g
     omega) _
theorem Mvs.fr (h : Mvs w2 wr N okg okq ok20 hg2 A13 c13 v16 v20 G ord out) (hf : Fr okg wr w1) (hs : Kd.S KT 31 w1 w2.heap.size okg (.slice (some A13) N c13) G') (hq : Sqn N G') : Mvs w2 w1 N okg okq ok20 hg2 A13 c13 v16 v20 G' ord out :=
 ⟨hs, hq, Kd.R_step h.rq (fun k ho hk => hf.block k hk (h.hoq k ho).1), Kd.R_step h.ro (fun k ho hk => hf.block k hk (fun e => by have := (h.hok k e).2; have := h.ho2 k ho; omega)), hf.below h.be h.be.size (fun k hk => (h.hok k hk).1), Nat.le_trans h.hg hf.size, h.h2, h.hok, h.hoq, h.ho2⟩
theorem Mvs.box (h : Mvs w2 wr N okg okq ok20 hg2 A13 c13 v16 v20 G ord out) (hb : hg2 ≤ bm) (hn : ∀ k, ok20 k → k ≠ bm) (j : Nat) (u : Value) : Mvs w2 (wr.setCell ⟨bm, j, none⟩ u) N okg okq ok20 hg2 A13 c13 v16 v20 G ord out :=
 ⟨Kd.S_far h.sg (fun k hk => by have := (h.hok k hk).2; show k ≠ bm; omega) _, h.sq, Kd.R_far h.rq (fun k hk => by have := (h.hoq k hk).2; show k ≠ bm; omega) _, Kd.R_far h.ro (fun k hk => hn k hk) _, h.be.setCell (by have := h.h2; show w2.heap.size ≤ bm; omega) _, by simpa [World.setCell] using h.hg, h.h2, h.hok, h.hoq, h.ho2⟩
theorem Mvs.append (h : Mvs w2 wr N okg okq ok20 hg2 A13 c13 v16 v20 G ord out) (hg : wr.grownBy w1 v20.ownBlock) (hb : Below w2.heap.size w2 w1) (hr : Kd.R k29 29 w1 w2.heap.size ok20 v out') : Mvs w2 w1 N okg okq ok20 hg2 A13 c13 v16 v G ord out' :=
 ⟨Kd.S_grown h.sg hg (fun k hk e => by
     have h1 := h.ho2 k (h.ro.1 k e.symm)
     have := (h.hok k hk).2
     omega), h.sq, Kd.R_grown h.rq hg (fun k hk e => by
     have h1 := h.ho2 k (h.ro.1 k e.symm)
     have := (h.hoq k hk).2
     omega), hr, hb, Nat.le_trans h.hg hg.size, h.h2, h.hok, h.hoq, h.ho2⟩
theorem Bx.drew (h : Bx wr bm a0 a1 a2 b) : Bx wr.drew bm a0 a1 a2 b := h
theorem Bx.cells (h : Bx wr bm a0 a1 a2 b) : wr.cell? ⟨bm, 0, none⟩ = some (.int .i64 a0) ∧ wr.cell? ⟨bm, 1, none⟩ = some (.int .i64 a1) ∧ wr.cell? ⟨bm, 2, none⟩ = some (.int .i64 a2) ∧ wr.cell? ⟨bm, 3, none⟩ = some (.int .i64 b) ∧ wr.frozen? ⟨bm, 3, none⟩ = false := by
 unfold Bx at h
 refine ⟨by simp [World.cell?, h], by simp [World.cell?, h], by simp [World.cell?, h], by simp [World.cell?, h], by simp [World.frozen?, h]⟩
theorem Bx.put (h : Bx wr bm a0 a1 a2 b) (x : Int) : Bx (wr.setCell ⟨bm, 3, none⟩ (.int .i64 x)) bm a0 a1 a2 x := by
 unfold Bx at h ⊢
 rw [Go.heap_setCell_same _ _ _ _ _ _ h]
 rfl
theorem Bx.far (h : Bx wr bm a0 a1 a2 b) {g : Nat} (hg : g ≠ bm) (j : Nat) (u : Value) : Bx (wr.setCell ⟨g, j, none⟩ u) bm a0 a1 a2 b := by
 unfold Bx at h ⊢
 rw [Below.heap_setCell _ _ _ _ (by show bm ≠ g; omega)]
 exact h
theorem Bx.fr (h : Bx wr bm a0 a1 a2 b) (hf : Fr okg wr w1) (hn : ¬ okg bm) : Bx w1 bm a0 a1 a2 b := by
 unfold Bx at h ⊢
 rw [hf.block bm (lt_of_block h) hn]
 exact h
end
end Go.Proofs.Ytdljbmgknhbceaa.A
end
section
namespace Go.Proofs.Ytdljbmgknhbceaa.A
open Go.RowKit Go.Proofs.YtdljbmgknhbceaaW.PrintWords Go.Proofs.YtdljbmgknhbceaaW.PrintLast Go.Proofs.YtdljbmgknhbceaaW.PrintMore Go.Proofs.Ytdljbmgknhbceaa.Q
structure Bld (w2 wr : World) (N : Nat) (okg : Nat → Prop) (hg1 : Nat) (A13 : Addr) (c13 : Nat) (v16 : Value) (G : List (List Int)) (ord : List S29) : Prop where
 sg : Kd.S KT 31 wr w2.heap.size okg (.slice (some A13) N c13) G
 sq : Sqn N G
 ro : Kd.R k29 29 wr w2.heap.size (fun k => hg1 ≤ k) v16 ord
 be : Below w2.heap.size w2 wr
 hg : hg1 ≤ wr.heap.size
 hok : ∀ k, okg k → w2.heap.size ≤ k ∧ k < hg1
section
variable {w2 wr w1 : World} {N : Nat} {okg : Nat → Prop} {hg1 : Nat} {A13 : Addr} {c13 : Nat} {v16 v : Value} {G : List (List Int)} {ord ord' : List S29}
theorem Bld.drew (h : Bld w2 wr N okg hg1 A13 c13 v16 G ord) : Bld w2 wr.drew N okg hg1 A13 c13 v16 G ord := ⟨Kd.S_drew h.sg, h.sq, Kd.R_drew h.ro, below_drew h.be, h.hg, h.hok⟩
theorem Bld.drewN (h : Bld w2 wr N okg hg1 A13 c13 v16 G ord) (m : Nat) : Bld w2 (wr.drewN m) N okg hg1 A13 c13 v16 G ord := ⟨Kd.S_drewN h.sg m, h.sq, Kd.R_drewN h.ro m, pw_below_drewN h.be m, h.hg, h.hok⟩
theorem Bld.at (h : Bld w2 wr N okg hg1 A13 c13 v16 G ord) (i j : Int) (i0 : 0 ≤ i) (i1 : i < N) (j0 : 0 ≤ j) (j1 : j < N) :
 ∃ g d, wr.cell? (A13.add i.toNat) = some (.slice (some ⟨g, 0, none⟩) N d) ∧ wr.cell? ⟨g, j.toNat, none⟩ = some (.int .i64 (get G i j)) ∧ wr.frozen? ⟨g, j.toNat, none⟩ = false ∧
  ∀ x, Bld w2 (wr.setCell ⟨g, j.toNat, none⟩ (.int .i64 x)) N okg hg1 A13 c13 v16 (upd G i j x) ord := by
 have hrl := h.sq.2 i i0 i1
 obtain ⟨g, d, s0, s1, s2, s3, ⟨s4, _⟩, s5⟩ := tab_at h.sg i j i0 (by rw [h.sq.1]; exact i1) j0 (by rw [hrl]; exact j1)
 rw [hrl] at s0
 refine ⟨g, d, s0, s1, s2, fun x => ⟨(s5 x).1, h.sq.upd _ _ _, ?_, h.be.setCell s3 _, by simpa [World.setCell] using h.hg, h.hok⟩⟩
 exact Kd.R_far h.ro (fun k hk => by
   have := (h.hok g s4).2
   have hk' : hg1 ≤ k := hk
   show k ≠ g
   omega) _
theorem Bld.append (h : Bld w2 wr N okg hg1 A13 c13 v16 G ord) (hg : wr.grownBy w1 v16.ownBlock) (hb : Below w2.heap.size w2 w1) (hr : Kd.R k29 29 w1 w2.heap.size (fun k => hg1 ≤ k) v ord') : Bld w2 w1 N okg hg1 A13 c13 v G ord' :=
 ⟨Kd.S_grown h.sg hg (fun k hk e => by
     have h1 : hg1 ≤ k := h.ro.1 k e.symm
     have := (h.hok k hk).2
     omega), h.sq, hr, hb, Nat.le_trans h.hg hg.size, h.hok⟩
end
set_option maxHeartbeats 16000000 in
set_option maxRecDepth 100000 in
theorem Settle_any (A : Option Addr) (c : Nat) (t : List (List Int)) (A1 : Option Addr) (c1 : Nat) (q : List Int) (w : World) (hr : Kd.C KT w A t.length t) (hr1 : Kd.C (Kd.int .i64) w A1 q.length q) :
 Calls Try.prog 20 #[.slice A t.length c, .slice A1 q.length c1] w fun e w' => ∃ v : Value, e = .returned (.tuple #[v, .int .i64 (settleOut t q).2]) ∧ Kd.R k29 29 w' w.heap.size (fun _ => True) v (settleOut t q).1 ∧ Below w.heap.size w w' := by
 have HR := sA hr
 have HR1 := sA hr1
 have hu29 := Try.underlying29
 clear hr hr1
 cases hv : fitsT t q with
 | false =>
  have hv' := sA hv
  have hf : Aside0 (settleOut t q = ([], 1)) := ⟨by simp [settleOut, hv]⟩
  clear hv
  go_enter Try.func20, Try.ntmps20
  go_wp2_with (go_at_call 46; refine (fits_any _ _ _ _ _ _ _ HR.out HR1.out).mono ?_; rw [hv'.out]; rintro e w' ⟨rfl, ⟨m, rfl⟩⟩)
  go_ret2
  exact ⟨_, by rw [hf.out]; rfl, by rw [hf.out]; exact Kd.R_nil _ _ _ _ _, pw_below_drewN (Below.refl _ _) _⟩
 | true =>
  have hv' := sA hv
  obtain ⟨n, hn⟩ : ∃ n, n = t.length := ⟨_, rfl⟩
  have hval : validT t = true := by simp [fitsT] at hv; exact hv.1
  have hql : q.length = n := by simp [fitsT] at hv; rw [hn]; exact hv.2.1
  have hn12 : n ≤ 12 := by rw [hn]; exact (valid_sq hval).1
  have HG := sA (show Good n t from by rw [hn]; exact valid_good hval)
  obtain ⟨has, hhas⟩ : ∃ has, has = heldT t := ⟨_, rfl⟩
  have hhl : Aside0 (has.length = n) := ⟨by rw [hhas, hn]; simp [heldT]⟩
  have HHB := sA (show ∀ f : Int, 0 ≤ f → f < n → 0 ≤ rd has f ∧ rd has f ≤ 13194139533312 from fun f f0 f1 => by rw [hhas]; exact held_bound hval f f0 (by omega))
  have HQB := sA (show ∀ f : Int, 0 ≤ f → f < n → 0 ≤ rd q f ∧ rd q f ≤ 1099511627776 from fun f f0 f1 => quota_bound hv f f0 (by omega))
  have hf : Aside0 (settleOut t q = (let b := sFto n has q t (zeroNet n, 0, []) n
    let r := flowG 0 1 b.2.1 b.2.1.toNat b.1 0
    if r.2 < b.2.1 then ([], 7) else ((settleGo n b.2.2 (r.1, [])).2, 0))) := ⟨by rw [settleOut, if_pos hv, buildNet, ← hn, ← hhas]⟩
  have HH := sA hhas
  rw [← hn] at HR ⊢
  rw [hql] at HR1 ⊢
  have HQL := sA hql
  have HTL := sA hn
  clear hv hval hql hn hhas
  have HFIT := sA (fits_any A c t A1 c1 q)
  rw [← HTL.out, HQL.out] at HFIT
  have HHELD := sA (held_any A c t)
  rw [← HTL.out, ← HH.out] at HHELD
  have hnn0 : 0 ≤ (n : Int) * (n : Int) := Int.mul_nonneg (by omega) (by omega)
  have hnn1 : (n : Int) * (n : Int) ≤ 144 := Int.le_trans (Int.mul_le_mul (show (n : Int) ≤ 12 by omega) (show (n : Int) ≤ 12 by omega) (by omega) (by omega)) (by omega)
  go_enter Try.func20, Try.ntmps20
  go_upto_region 8 with (first
    | (go_at_call 46; refine (HFIT.out _ HR.out HR1.out).mono ?_; rw [hv'.out]; rintro e w' ⟨rfl, ⟨m, rfl⟩⟩)
    | (go_at_call 41; refine (HHELD.out _ (Kd.C_drewN HR.out _) (by omega)).mono ?_; rintro e w1 ⟨v1, rfl, hR, hb⟩; obtain ⟨A7, c7, e7⟩ : ∃ A c, v1 = .slice A n c := (by obtain ⟨A, c, e⟩ := Kd.R_slice hR; exact ⟨A, c, by rw [e, hhl.out]⟩); subst e7; have HHR := sA hR; have HB1 := sA (show Below w.heap.size w w1 from (pw_below_drewN (Below.refl _ _) _).trans hb); clear hR hb))
  obtain ⟨w2, hw2⟩ : ∃ w2, w2 = w1.alloc (.cells #[.int .i64 (n : Int)] 3) := ⟨_, rfl⟩
  have hb12 : Below w1.heap.size w1 w2 := by rw [hw2]; exact (Below.refl _ _).alloc (Nat.le_refl _) _
  have HT2 := sA (Kd.C_below HR.out (below_step HB1.out hb12))
  have HQ2 := sA (Kd.C_below HR1.out (below_step HB1.out hb12))
  have HH2 := sA (show Kd.C (Kd.int .i64) w2 A7 n has from by have := (Kd.R_reads' HHR.out).2.2; rw [hhl.out] at this; exact Kd.C_below this hb12)
  have HBw := sA (below_step HB1.out hb12)
  have HBN := sA (show w2.heap[w1.heap.size]? = some (.cells #[.int .i64 (n : Int)] 3 (0, 0)) from by rw [hw2]; exact heap_at _ rfl)
  have HBL := sA (show w1.heap.size < w2.heap.size from by rw [hw2]; simp)
  rw [← hw2]
  generalize w1.heap.size = bn at HBN HBL ⊢
  clear hw2 hb12 HR HR1 HHR HB1 HFIT HHELD
  have hcn : w2.cell? ⟨bn, 0, none⟩ = some (.int .i64 (n : Int)) := cell_of_one HBN.out
  obtain ⟨N, hN⟩ : ∃ N : Nat, N = netSize n := ⟨_, rfl⟩
  have hNi : (N : Int) = 2 + 2 * (n : Int) + (n : Int) * (n : Int) := by rw [hN]; unfold netSize; push_cast; rfl
  have hNt : (2 + 2 * (n : Int) + (n : Int) * (n : Int)).toNat = N := by omega
  have hN170 : N ≤ 170 := by omega
  have hN2 : 2 ≤ N := by omega
  have HNI := sA hNi
  have HNT := sA hNt
  have HN0 := sA (show (0 : Int) ≤ 2 + 2 * (n : Int) + (n : Int) * (n : Int) from by omega)
  have HN1 := sA (show (2 + 2 * (n : Int) + (n : Int) * (n : Int)).toNat * 24 ≤ 281474976710656 from by omega)
  have HN := sA hN
  clear hNi hNt hN
  go_wp2_with (first | ((with_reducible refine gate_dst (N := 42) rfl ?_); refine Kd.S_make KT (w0 := w2) w2.heap.size 31 rfl (N := 42) rfl 69 _ _ rfl (2 + 2 * (n : Int) + (n : Int) * (n : Int)) rfl rfl Try.underlying69 (.slice none 0 0) 24 info31 rfl (by decide) (by omega) [] (ok := fun k => w2.heap.size ≤ k) (okp := fun _ => False) ⟨_, rfl, Kd.R_nil _ _ _ _ _⟩ (fun _ hk => hk.elim) (Nat.le_refl _) HN0.out HN1.out (Below.refl _ _) (Nat.le_refl _) ?_; intro v13 w4 ho5 hb hg_ hnew_; clear hg_ hnew_; rw [HNT.out] at ho5; obtain ⟨A13, c13, e13⟩ : ∃ A c, v13 = .slice A N c := (by obtain ⟨A, c, e⟩ := Kd.S_slice ho5; exact ⟨A, c, by rw [e, List.length_replicate]⟩); subst e13; have HO := sA ho5; have HB := sA hb; clear hb ho5))
  clear hcn
  go_loopw [45] (fun i wr => ∃ k : Nat, k ≤ N ∧ i = .int .i64 k ∧ Aside0 (Kd.S KT 31 wr w2.heap.size (fun k => w2.heap.size ≤ k) (.slice A13 N c13) (List.replicate k (List.replicate N 0) ++ List.replicate (N - k) [])) ∧ Aside0 (Below w2.heap.size w2 wr)) (fun i _ => N - (intOf i).toNat)
  case atStart => exact ⟨0, by omega, rfl, ⟨by simpa using HO.out⟩, HB⟩
  case round =>
   clear HO HB
   obtain ⟨k, hk, rfl, HO, HB⟩ := hrel
   obtain ⟨wo, rfl⟩ : ∃ wo : World, wo = wr := ⟨_, rfl⟩
   by_cases hlt : k < N
   · obtain ⟨Z, hZ⟩ : ∃ Z : List Int, Z = List.replicate N 0 := ⟨_, rfl⟩
     obtain ⟨P, hP⟩ : ∃ P : List (List Int), P = List.replicate k (List.replicate N 0) ++ List.replicate (N - k) [] := ⟨_, rfl⟩
     have hPl : P.length = N := by rw [hP]; simp; omega
     have hst : Aside0 (P.set k Z = List.replicate (k + 1) (List.replicate N 0) ++ List.replicate (N - (k + 1)) []) := ⟨by
       rw [hP, List.set_append_right _ _ (by simp), List.length_replicate, Nat.sub_self, show N - k = (N - (k + 1)) + 1 from by omega, List.replicate_succ (n := N - (k + 1)), List.set_cons_zero, List.replicate_succ' (n := k), List.append_assoc, hZ]; rfl⟩
     have NZ := sA hZ
     have hPl' := sA hPl
     have h0 : (0 : Int) ≤ (N : Int) := by omega
     have HL := sA (show ((N : Int)).toNat * 8 ≤ 281474976710656 from by omega)
     rw [← hP] at HO
     clear hP hZ hPl
     go_wp2_with (first | ((with_reducible refine gate_dst (N := 52) rfl ?_); refine Kd.R_make (Kd.int .i64) (w0 := wo) wo.heap.size 3 rfl (N := 52) rfl 31 _ _ rfl (N : Int) rfl rfl Try.underlying31 (.int .i64 0) 8 info3 rfl (by decide) (by omega) 0 (ok := fun _ => True) (okp := fun _ => True) rfl (fun _ hk => hk) trivial h0 HL.out (Below.refl _ _) (Nat.le_refl _) ?_; intro v52 w5 ho5 hb hg_ hnew_; clear hg_ hnew_; rw [Int.toNat_natCast, ← NZ.out] at ho5; obtain ⟨g, x, e, t1, t2, t3, t4, t5⟩ := tab_row HO.out hb ho5 HB.out.size (fun k hk => by have := HB.out.size; show w2.heap.size ≤ k; omega) (k : Int) (by omega) (by rw [hPl'.out]; omega); subst e; rw [Int.toNat_natCast] at t1 t2 t5; obtain ⟨A52, c52, e52⟩ := Kd.R_slice ho5; subst e52; have HO5 := sA t5; have HB5 := sA ((below_step HB.out hb).setCell (p := ⟨g, k, none⟩) t3 (.slice A52 Z.length c52)); clear hb ho5 t5))
     go_roundw
     case rel => exact ⟨k + 1, by omega, by go_num, ⟨by rw [← hst.out]; exact HO5.out⟩, HB5⟩
     case measure => simp [intOf]; omega
   · obtain rfl : k = N := by omega
     have hz : Aside0 (List.replicate k (List.replicate k (0 : Int)) ++ List.replicate (k - k) [] = zeroNet n) := ⟨by rw [Nat.sub_self, List.replicate_zero, List.append_nil, zeroNet, ← HN.out]⟩
     rw [hz.out] at HO
     obtain ⟨N, hNk⟩ : ∃ N, N = k := ⟨_, rfl⟩
     rw [← hNk] at HO HN HNI hN170 hN2 ⊢
     clear hNk HNT HN0 HN1 hz hk hlt
     obtain ⟨okg, hokg⟩ : ∃ okg : Nat → Prop, okg = fun k => w2.heap.size ≤ k ∧ k < wo.heap.size := ⟨_, rfl⟩
     have HSG := sA (show Kd.S KT 31 wo w2.heap.size okg (.slice A13 N c13) (zeroNet n) from by rw [hokg]; exact Kd.S_mono (Kd.S_bound HO.out) (fun k hk => ⟨hk.1, hk.2.2.1⟩))
     have HOK := sA (show ∀ k, okg k → w2.heap.size ≤ k ∧ k < wo.heap.size from by rw [hokg]; exact fun k hk => hk)
     have hA13 : ∃ x, A13 = some x := by
      obtain ⟨A', c', e, hle, hC⟩ := Kd.S_reads HO.out
      injection e with e1 e2 e3
      obtain ⟨ad', _, _, e9, _⟩ := at_L1 hC 0 (by omega) (by
        have h1 : (zeroNet n).length = netSize n := by simp [zeroNet]
        have h2 : 2 ≤ netSize n := by unfold netSize; omega
        omega)
      exact ⟨ad', by rw [e1, e9]⟩
     obtain ⟨A13, rfl⟩ := hA13
     have hg2 := sA HB.out.size
     have HZQ := sA (show Sqn N (zeroNet n) from by rw [HN.out]; exact zeroNet_sq n)
     clear hokg HO
     generalize hgg : wo.heap.size = hg1 at HOK hg2
     have hgl : Aside0 (hg1 ≤ wo.heap.size) := ⟨by omega⟩
     clear hgg
     have hcn : wo.cell? ⟨bn, 0, none⟩ = some (.int .i64 (n : Int)) := (HB.out.cell (p := ⟨bn, 0, none⟩) HBL.out).trans (cell_of_one HBN.out)
     go_upto_block 2 with (fail)
     clear hcn
     have HBD := sA (show Bld w2 wo N okg hg1 A13 c13 (.slice none 0 0) (zeroNet n) [] from ⟨HSG.out, HZQ.out, Kd.R_nil _ _ _ _ _, HB.out, hgl.out, HOK.out⟩)
     clear HSG HZQ hgl HB
     go_cut [15, 16] (fun v15 v16 wc => ∃ (st : List (List Int) × Int × List S29), v15 = .int .i64 st.2.1 ∧ Aside0 (st = sFto n has q t (zeroNet n, 0, []) n) ∧ Aside0 (0 ≤ st.2.1 ∧ st.2.1 ≤ 1125899906842624) ∧ Aside0 (st.2.2.length ≤ 2000) ∧ Aside0 (Bld w2 wc N okg hg1 A13 c13 v16 st.1 st.2.2))
     case first =>
      have hcn : wo.cell? ⟨bn, 0, none⟩ = some (.int .i64 (n : Int)) := (HBD.out.be.cell (p := ⟨bn, 0, none⟩) HBL.out).trans (cell_of_one HBN.out)
      go_wp2_with fail
      clear hcn
      go_loopw [15, 16, 56] (fun v15 v16 v56 wr => ∃ (f : Nat) (G : List (List Int)) (over : Int) (ord : List S29), v56 = .int .i64 f ∧ v15 = .int .i64 over ∧ Aside0 (f ≤ n) ∧ Aside0 (sFto n has q t (zeroNet n, 0, []) f = (G, over, ord)) ∧ Aside0 (0 ≤ over ∧ over ≤ f * 13194139533312) ∧ Aside0 (ord.length ≤ f * 144) ∧ Aside0 (Bld w2 wr N okg hg1 A13 c13 v16 G ord)) (fun _ _ v56 _ => n - (intOf v56).toNat)
      case atStart => exact ⟨0, zeroNet n, 0, [], rfl, rfl, ⟨by omega⟩, ⟨rfl⟩, ⟨by omega⟩, ⟨by simp⟩, HBD⟩
      case round =>
       clear HBD
       obtain ⟨f, G, over, ord, rfl, rfl, hfn, hE, hOB, hOL, HB⟩ := hrel
       obtain ⟨wp, rfl⟩ : ∃ wo : World, wo = wr := ⟨_, rfl⟩
       have hfn' := hfn.out
       have hob := hOB.out
       by_cases hlt : f < n
       · have hlb : decide ((f : Int) < (n : Int)) = true := decide_eq_true (by omega)
         have hFI := (by omega : (0 : Int) ≤ f)
         have hFN := (by omega : (f : Int) < n)
         have hbh := HHB.out f hFI hFN
         have hbq := HQB.out f hFI hFN
         obtain ⟨adh, e, hxh⟩ := Kd.at_int (Kd.C_below HH2.out HB.out.be) f hFI hFN
         cases e
         obtain ⟨adq, e, hxq⟩ := Kd.at_int (Kd.C_below HQ2.out HB.out.be) f hFI hFN
         cases e
         rw [Int.toNat_natCast] at hxh hxq
         by_cases hle : rd has f ≤ rd q f
         · have hleb : decide (rd has f ≤ rd q f) = true := decide_eq_true hle
           have hE2 : Aside0 (sFto n has q t (zeroNet n, 0, []) (f + 1) = (upd G (nodeT n f) 1 (wrap64 (rd q f - rd has f)), over, ord)) := ⟨by rw [sFto, hE.out, sF, if_pos hle]⟩
           rw [show wrap64 (rd q f - rd has f) = rd q f - rd has f from by unfold wrap64; omega] at hE2
           have hxt := nodeT_lt n f hFI hFN
           rw [← HN.out] at hxt
           obtain ⟨x, hx⟩ : ∃ x, x = nodeT n f := ⟨_, rfl⟩
           rw [← hx] at hxt hE2
           obtain ⟨x0, x1⟩ := hxt
           have HX := sA (show x = 2 + (n : Int) + f from hx)
           clear hx hle
           go_wp2_with fail
           go_quiet (fail)
           go_upto_region 20 with (fail)
           have hB5 := sA ((HB.out.drewN nq).drew)
           refine wp_region_still_tail 17 (by kernel_rfl) (by kernel_rfl) ?_
           change wpStill _ _ (wp.drewN nq).drew (fun a' => wpList _ _ _ _ a' (wp.drewN nq).drew) _ _
           generalize (wp.drewN nq).drew = w5 at hB5 ⊢
           have hcn : w5.cell? ⟨bn, 0, none⟩ = some (.int .i64 (n : Int)) := (hB5.out.be.cell (p := ⟨bn, 0, none⟩) HBL.out).trans (cell_of_one HBN.out)
           obtain ⟨adh', e, hxh'⟩ := Kd.at_int (Kd.C_below HH2.out hB5.out.be) f hFI hFN
           cases e
           obtain ⟨adq', e, hxq'⟩ := Kd.at_int (Kd.C_below HQ2.out hB5.out.be) f hFI hFN
           cases e
           rw [Int.toNat_natCast] at hxh' hxq'
           obtain ⟨g, d, s0, s1, s2, s5⟩ := hB5.out.at x 1 (by omega) (by omega) (by omega) (by omega)
           rw [show (1 : Int).toNat = 1 from rfl] at s1 s2 s5
           have hN1 : 1 < N := by omega
           have hN1i : (1 : Int) < (N : Int) := by omega
           have S5 := sA s5
           clear s5
           simp only [List.take_succ_cons, List.take_zero, List.drop_succ_cons, List.drop_zero]
           repeat still_step
           still_call (node48 (f : Int) x n bn _ hcn HX.out (by omega) hFI hFN)
           repeat still_step
           refine wpStill_nil ?_
           clear hcn
           go_wp2_with fail
           go_roundw
           case rel => exact ⟨f + 1, _, over, ord, by go_num, rfl, ⟨by omega⟩, hE2, ⟨by push_cast; omega⟩, ⟨by have := hOL.out; omega⟩, ⟨S5.out _⟩⟩
           case measure => simp [intOf]; omega
         · have hleb : decide (rd has f ≤ rd q f) = false := decide_eq_false hle
           have hE2 : Aside0 (sFto n has q t (zeroNet n, 0, []) (f + 1) = ((sOto n has q t f (upd G 0 (nodeH f) (rd has f - rd q f), ord) n).1, over + (rd has f - rd q f), (sOto n has q t f (upd G 0 (nodeH f) (rd has f - rd q f), ord) n).2)) := ⟨by
             rw [sFto, hE.out, sF, if_neg hle]
             rw [show wrap64 (rd has f - rd q f) = rd has f - rd q f from by unfold wrap64; omega, show wrap64 (over + (rd has f - rd q f)) = over + (rd has f - rd q f) from by unfold wrap64; omega]⟩
           have hxt := nodeH_lt n f hFI hFN
           rw [← HN.out] at hxt
           obtain ⟨x, hx⟩ : ∃ x, x = nodeH f := ⟨_, rfl⟩
           rw [← hx] at hxt hE2
           obtain ⟨x0, x1⟩ := hxt
           have HX := sA (show x = 2 + (f : Int) from hx)
           have HXX := sA hx
           have hgt : rd q f < rd has f := by omega
           clear hx hle
           have hwr : IntKind.i64.wrap (rd has f - rd q f) = rd has f - rd q f := IntWalk.i64_in _ (by omega)
           have hwr2 : IntKind.i64.wrap (over + (rd has f - rd q f)) = over + (rd has f - rd q f) := IntWalk.i64_in _ (by omega)
           go_wp2_with fail
           go_quiet (fail)
           go_wp2_with fail
           obtain ⟨nqa, hnqa⟩ : ∃ x, x = nq := ⟨_, rfl⟩
           rw [← hnqa]
           clear hnqa
           go_quiet (fail)
           clear hwr2
           go_upto_region 22 with (fail)
           have hB5 := sA (((HB.out.drewN nqa).drewN nq).drew)
           refine wp_region_still_tail 17 (by kernel_rfl) (by kernel_rfl) ?_
           change wpStill _ _ ((wp.drewN nqa).drewN nq).drew (fun a' => wpList _ _ _ _ a' ((wp.drewN nqa).drewN nq).drew) _ _
           generalize ((wp.drewN nqa).drewN nq).drew = w5 at hB5 ⊢
           have hcn : w5.cell? ⟨bn, 0, none⟩ = some (.int .i64 (n : Int)) := (hB5.out.be.cell (p := ⟨bn, 0, none⟩) HBL.out).trans (cell_of_one HBN.out)
           obtain ⟨adh', e, hxh'⟩ := Kd.at_int (Kd.C_below HH2.out hB5.out.be) f hFI hFN
           cases e
           obtain ⟨adq', e, hxq'⟩ := Kd.at_int (Kd.C_below HQ2.out hB5.out.be) f hFI hFN
           cases e
           rw [Int.toNat_natCast] at hxh' hxq'
           obtain ⟨g, d, s0, s1, s2, s5⟩ := hB5.out.at 0 x (by omega) (by omega) (by omega) (by omega)
           rw [show (0 : Int).toNat = 0 from rfl, Go.Addr.add_zero'] at s0
           have S5 := sA s5
           have h0N : 0 < N := by omega
           have h0Ni : (0 : Int) < (N : Int) := by omega
           clear s5
           simp only [List.take_succ_cons, List.take_zero, List.drop_succ_cons, List.drop_zero]
           repeat still_step
           still_call (node47 (f : Int) x _ HX.out hFI (by omega))
           repeat still_step
           refine wpStill_nil ?_
           clear hcn hwr
           obtain ⟨s0f, hs0f⟩ : ∃ s, s = (upd G 0 x (rd has f - rd q f), ord) := ⟨_, rfl⟩
           rw [← hs0f] at hE2
           have HS0 := sA hs0f
           obtain ⟨w6, hw6⟩ : ∃ w6, w6 = w5.setCell ⟨g, x.toNat, none⟩ (.int .i64 (rd has f - rd q f)) := ⟨_, rfl⟩
           have HB6 := sA (show Bld w2 w6 N okg hg1 A13 c13 u16 s0f.1 s0f.2 from by rw [hw6, hs0f]; exact S5.out _)
           go_upto_region 23 with (fail)
           rw [← hw6]
           clear hs0f hw6 S5 s0 s1 s2 hB5 HB hxh' hxq' hxh hxq
           have hcn : w6.cell? ⟨bn, 0, none⟩ = some (.int .i64 (n : Int)) := (HB6.out.be.cell (p := ⟨bn, 0, none⟩) HBL.out).trans (cell_of_one HBN.out)
           go_wp2_with fail
           clear hcn
           have hln0 : Aside0 (s0f.2.length ≤ (f : Nat) * 144 + 0 * 12) := ⟨by rw [HS0.out]; simpa using hOL.out⟩
           go_loopw [16, 114] (fun v16 v114 wr => ∃ (o : Nat) (s : List (List Int) × List S29), v114 = .int .i64 o ∧ Aside0 (o ≤ n) ∧ Aside0 (sOto n has q t f s0f o = s) ∧ Aside0 (s.2.length ≤ f * 144 + o * 12) ∧ Aside0 (Bld w2 wr N okg hg1 A13 c13 v16 s.1 s.2)) (fun _ v114 _ => n - (intOf v114).toNat)
           case atStart => exact ⟨0, s0f, rfl, ⟨by omega⟩, ⟨rfl⟩, hln0, HB6⟩
           case round =>
            clear HB6
            obtain ⟨o, s, rfl, hon, hEo, hlo, HB3⟩ := hrel
            obtain ⟨wx, rfl⟩ : ∃ wo : World, wo = wr := ⟨_, rfl⟩
            have hon' := hon.out
            by_cases hlt2 : o < n
            · have hlb2 : decide ((o : Int) < (n : Int)) = true := decide_eq_true (by omega)
              have hOI := (by omega : (0 : Int) ≤ o)
              have hON := (by omega : (o : Int) < n)
              have hyt := nodeP_lt n f o hFI hFN hOI hON
              rw [← HN.out] at hyt
              obtain ⟨y, hy⟩ : ∃ y, y = nodeP n f o := ⟨_, rfl⟩
              rw [← hy] at hyt
              obtain ⟨y0, y1⟩ := hyt
              have HY := sA (show y = 2 + 2 * (n : Int) + (f : Int) * n + o from hy)
              have HYY := sA hy
              have y00 : 0 ≤ y := by omega
              clear hy
              go_wp2_with fail
              have hB5 := sA (HB3.out.drew)
              refine wp_region_still_tail 18 (by kernel_rfl) (by kernel_rfl) ?_
              change wpStill _ _ (wx).drew (fun a' => wpList _ _ _ _ a' (wx).drew) _ _
              generalize (wx).drew = w5 at hB5 ⊢
              have hcn : w5.cell? ⟨bn, 0, none⟩ = some (.int .i64 (n : Int)) := (hB5.out.be.cell (p := ⟨bn, 0, none⟩) HBL.out).trans (cell_of_one HBN.out)
              obtain ⟨adt', A2', c2', e, hxt', _, hi'⟩ := at_L1 (Kd.C_below HT2.out hB5.out.be) f hFI hFN
              cases e
              have hrl' := HG.out.1.2 f hFI hFN
              obtain ⟨adr', e, hxr'⟩ := Kd.at_int hi' o hOI (by rw [hrl']; exact hON)
              cases e
              rw [hrl'] at hxt'
              rw [Int.toNat_natCast] at hxt' hxr'
              clear hrl' hi'
              obtain ⟨g, d, s0, s1, s2, s5⟩ := hB5.out.at x y (by omega) (by omega) (by omega) (by omega)
              have S5 := sA s5
              clear s5
              simp only [List.take_succ_cons, List.take_zero, List.drop_succ_cons, List.drop_zero]
              repeat still_step
              still_call (node47 (f : Int) x _ HX.out hFI (by omega))
              repeat still_step
              still_call (node49 (f : Int) (o : Int) y n bn _ hcn HY.out (by omega) hFI hFN hOI hON)
              repeat still_step
              refine wpStill_nil ?_
              clear hcn
              obtain ⟨s1f, hs1f⟩ : ∃ s', s' = (upd s.1 x y (get t f o), s.2) := ⟨_, rfl⟩
              have hEo2 : Aside0 (sOto n has q t f s0f (o + 1) = sTto n has q f o s1f n) := ⟨by rw [sOto, hEo.out, sO, hs1f, HXX.out, HYY.out]⟩
              obtain ⟨w7, hw7⟩ : ∃ w7, w7 = w5.setCell ⟨g, y.toNat, none⟩ (.int .i64 (rd (rd_L1 t f) o)) := ⟨_, rfl⟩
              have HB7 := sA (show Bld w2 w7 N okg hg1 A13 c13 u16 s1f.1 s1f.2 from by rw [hw7, hs1f]; exact S5.out _)
              have hln1 : Aside0 (s1f.2.length ≤ (f : Nat) * 144 + (o : Nat) * 12 + 0) := ⟨by rw [hs1f]; exact hlo.out⟩
              go_upto_region 27 with (fail)
              rw [← hw7]
              clear hs1f hw7 S5 s0 s1 s2 hB5 HB3 hxt' hxr'
              have hcn : w7.cell? ⟨bn, 0, none⟩ = some (.int .i64 (n : Int)) := (HB7.out.be.cell (p := ⟨bn, 0, none⟩) HBL.out).trans (cell_of_one HBN.out)
              go_wp2_with fail
              clear hcn
              go_loopw [16, 136] (fun v16 v136 wr => ∃ (k : Nat) (s' : List (List Int) × List S29), v136 = .int .i64 k ∧ Aside0 (k ≤ n) ∧ Aside0 (sTto n has q f o s1f k = s') ∧ Aside0 (s'.2.length ≤ f * 144 + o * 12 + k) ∧ Aside0 (Bld w2 wr N okg hg1 A13 c13 v16 s'.1 s'.2)) (fun _ v136 _ => n - (intOf v136).toNat)
              case atStart => exact ⟨0, s1f, rfl, ⟨by omega⟩, ⟨rfl⟩, hln1, HB7⟩
              case round =>
               clear HB7
               obtain ⟨k, s', rfl, hkn, hEk, hlk, HB4⟩ := hrel
               obtain ⟨wz, rfl⟩ : ∃ wo : World, wo = wr := ⟨_, rfl⟩
               have hkn' := hkn.out
               by_cases hlt3 : k < n
               · have hlb3 : decide ((k : Int) < (n : Int)) = true := decide_eq_true (by omega)
                 have hKI := (by omega : (0 : Int) ≤ k)
                 have hKN := (by omega : (k : Int) < n)
                 obtain ⟨adh, e, hxh⟩ := Kd.at_int (Kd.C_below HH2.out HB4.out.be) k hKI hKN
                 cases e
                 obtain ⟨adq, e, hxq⟩ := Kd.at_int (Kd.C_below HQ2.out HB4.out.be) k hKI hKN
                 cases e
                 rw [Int.toNat_natCast] at hxh hxq
                 have done5 : ∀ b, sTto n has q f o s1f (k + 1) = b → (fun _ => True) b := fun _ _ => trivial
                 by_cases h1 : (o : Int) = f
                 · have hb1 : ((o : Int) != (f : Int)) = false := by simpa using h1
                   have hb1' : ((o : Int) == (f : Int)) = true := by simpa using h1
                   clear done5
                   have hE5 : Aside0 (sTto n has q f o s1f (k + 1) = s') := ⟨by rw [sTto, hEk.out, sT, if_neg (by omega)]⟩
                   go_wp2_with fail
                   go_quiet (fail)
                   go_wp2_with fail
                   go_roundw
                   case rel => exact ⟨k + 1, s', by go_num, ⟨by omega⟩, hE5, ⟨by have := hlk.out; omega⟩, ⟨HB4.out.drewN _⟩⟩
                   case measure => simp [intOf]; omega
                 have hb1 : ((o : Int) != (f : Int)) = true := by simpa using h1
                 have hb1' : ((o : Int) == (f : Int)) = false := by simpa using h1
                 by_cases h2 : (k : Int) = f
                 · have hb2 : ((k : Int) != (f : Int)) = false := by simpa using h2
                   have hb2' : ((k : Int) == (f : Int)) = true := by simpa using h2
                   clear done5
                   have hE5 : Aside0 (sTto n has q f o s1f (k + 1) = s') := ⟨by rw [sTto, hEk.out, sT, if_neg (by omega)]⟩
                   go_wp2_with fail
                   go_quiet (fail)
                   go_wp2_with fail
                   go_roundw
                   case rel => exact ⟨k + 1, s', by go_num, ⟨by omega⟩, hE5, ⟨by have := hlk.out; omega⟩, ⟨HB4.out.drewN _⟩⟩
                   case measure => simp [intOf]; omega
                 have hb2 : ((k : Int) != (f : Int)) = true := by simpa using h2
                 have hb2' : ((k : Int) == (f : Int)) = false := by simpa using h2
                 by_cases h3 : (k : Int) = o
                 · have hb3 : ((k : Int) != (o : Int)) = false := by simpa using h3
                   have hb3' : ((k : Int) == (o : Int)) = true := by simpa using h3
                   clear done5
                   have hE5 : Aside0 (sTto n has q f o s1f (k + 1) = s') := ⟨by rw [sTto, hEk.out, sT, if_neg (by omega)]⟩
                   go_wp2_with fail
                   go_quiet (fail)
                   go_wp2_with fail
                   go_roundw
                   case rel => exact ⟨k + 1, s', by go_num, ⟨by omega⟩, hE5, ⟨by have := hlk.out; omega⟩, ⟨HB4.out.drewN _⟩⟩
                   case measure => simp [intOf]; omega
                 have hb3 : ((k : Int) != (o : Int)) = true := by simpa using h3
                 have hb3' : ((k : Int) == (o : Int)) = false := by simpa using h3
                 by_cases h4 : rd q k < rd has k
                 · have hb4 : decide (rd has k ≤ rd q k) = false := decide_eq_false (by omega)
                   clear done5
                   have hE5 : Aside0 (sTto n has q f o s1f (k + 1) = s') := ⟨by rw [sTto, hEk.out, sT, if_neg (by omega)]⟩
                   go_wp2_with fail
                   go_quiet (fail)
                   go_wp2_with fail
                   go_roundw
                   case rel => exact ⟨k + 1, s', by go_num, ⟨by omega⟩, hE5, ⟨by have := hlk.out; omega⟩, ⟨HB4.out.drewN _⟩⟩
                   case measure => simp [intOf]; omega
                 have hb4 : decide (rd has k ≤ rd q k) = true := decide_eq_true (by omega)
                 clear done5
                 have hzt := nodeT_lt n k hKI hKN
                 rw [← HN.out] at hzt
                 obtain ⟨z, hz⟩ : ∃ z, z = nodeT n k := ⟨_, rfl⟩
                 have hE5 : Aside0 (sTto n has q f o s1f (k + 1) = (upd s'.1 y z 1125899906842624, s'.2 ++ [⟨f, k, o, 0⟩])) := ⟨by rw [sTto, hEk.out, sT, if_pos (by omega), hz, HYY.out]; rfl⟩
                 rw [← hz] at hzt
                 obtain ⟨z0, z1⟩ := hzt
                 have HZ := sA (show z = 2 + (n : Int) + (k : Int) from hz)
                 clear hz h4 h3 h2 h1
                 go_wp2_with fail
                 go_quiet (fail)
                 clear hb1 hb1' hb2 hb2' hb3 hb3' hb4
                 go_upto_region 31 with (fail)
                 have hB5 := sA ((HB4.out.drewN nq).drew)
                 refine wp_region_still_tail 11 (by kernel_rfl) (by kernel_rfl) ?_
                 change wpStill _ _ (wz.drewN nq).drew (fun a' => wpList _ _ _ _ a' (wz.drewN nq).drew) _ _
                 generalize (wz.drewN nq).drew = w5 at hB5 ⊢
                 have hcn : w5.cell? ⟨bn, 0, none⟩ = some (.int .i64 (n : Int)) := (hB5.out.be.cell (p := ⟨bn, 0, none⟩) HBL.out).trans (cell_of_one HBN.out)
                 obtain ⟨g, d, s0, s1, s2, s5⟩ := hB5.out.at y z (by omega) (by omega) (by omega) (by omega)
                 have S5 := sA s5
                 clear s5
                 simp only [List.take_succ_cons, List.take_zero, List.drop_succ_cons, List.drop_zero]
                 repeat still_step
                 still_call (node49 (f : Int) (o : Int) y n bn _ hcn HY.out (by omega) hFI hFN hOI hON)
                 repeat still_step
                 still_call (node48 (k : Int) z n bn _ hcn HZ.out (by omega) hKI hKN)
                 repeat still_step
                 refine wpStill_nil ?_
                 clear hcn
                 obtain ⟨w8, hw8⟩ : ∃ w8, w8 = w5.setCell ⟨g, z.toNat, none⟩ (.int .i64 1125899906842624) := ⟨_, rfl⟩
                 have HB8 := sA (show Bld w2 w8 N okg hg1 A13 c13 u16 (upd s'.1 y z 1125899906842624) s'.2 from by rw [hw8]; exact S5.out _)
                 go_upto_region 32 with (fail)
                 rw [← hw8]
                 clear hw8 S5 s0 s1 s2 hB5 HB4
                 have hlk' := hlk.out
                 have hlk2 : s'.2.length ≤ 2000 := by omega
                 have HFK := sA hlk2
                 clear hlk' hlk2
                 have HZ8 := HB8.out.be.size
                 have HG8 := HB8.out.hg
                 go_wp2_with (first | ((with_reducible refine gate_builtin (b := .append) (xs := #[.tmp 174, .tmp 179]) rfl ?_); at_builtin; refine Kd.R_append k29 (w0 := w2) w2.heap.size rfl (.tmp 174) (.tmp 179) 30 29 (.agg #[(.int .i64 0), (.int .i64 0), (.int .i64 0), (.int .i64 0)]) 32 rfl Try.underlying30 info29 rfl (by decide) (by omega) u16 s'.2 (⟨f, k, o, 0⟩ : S29) [.int .i64 f, .int .i64 k, .int .i64 o, .int .i64 0] (fun k => hg1 ≤ k) (fun _ => False) rfl rfl ?aP (fun _ hk => hk.elim) ?aF ?aO ?aB ?aS ?aL ?_; (case aP => exact k29_mkM _ _ _ (⟨f, k, o, 0⟩ : S29)); (case aB => exact HB8.out.be); (case aF => exact (fun j hj => by show hg1 ≤ j; omega)); (case aO => exact HB8.out.ro); (case aS => exact HZ8); (case aL => have := HFK.out; omega); intro v17 w9 ho hb hg hat; have HB9 := sA (HB8.out.append hg hb ho); clear ho hb hg hat))
                 go_roundw
                 case rel => exact ⟨k + 1, _, by go_num, ⟨by omega⟩, hE5, ⟨by have := hlk.out; simp; omega⟩, HB9⟩
                 case measure => simp [intOf]; omega
               · have hlb3 : decide ((k : Int) < (n : Int)) = false := decide_eq_false (by omega)
                 obtain rfl : k = n := by omega
                 go_wp2_with fail
                 go_roundw
                 case rel => exact ⟨o + 1, s', by go_num, ⟨by omega⟩, ⟨by rw [hEo2.out, hEk.out]⟩, ⟨by have := hlk.out; omega⟩, HB4⟩
                 case measure => simp [intOf]; omega
            · have hlb2 : decide ((o : Int) < (n : Int)) = false := decide_eq_false (by omega)
              obtain rfl : o = n := by omega
              go_wp2_with fail
              go_roundw
              case rel => exact ⟨f + 1, s.1, over + (rd has f - rd q f), s.2, by go_num, rfl, ⟨by omega⟩, ⟨by rw [hE2.out, hEo.out]⟩, ⟨by push_cast; omega⟩, ⟨by have := hlo.out; omega⟩, HB3⟩
              case measure => simp [intOf]; omega
       · have hlb : decide ((f : Int) < (n : Int)) = false := decide_eq_false (by omega)
         obtain rfl : f = n := by omega
         go_wp2_with fail
         go_meet
         case rel => exact ⟨(G, over, ord), rfl, ⟨hE.out.symm⟩, ⟨by show 0 ≤ over ∧ over ≤ 1125899906842624; omega⟩, ⟨by show ord.length ≤ 2000; have := hOL.out; omega⟩, HB⟩
     case rest =>
      clear HBD
      obtain ⟨⟨G, over, ord⟩, rfl, hst, hov, hOLN, HB⟩ := hcut
      rw [← hst.out] at hf
      have HRG := sA (show ∀ m ∈ ord, okM n m from by
        have := sFto_range (n := n) (has := has) (q := q) (t := t) (s := (zeroNet n, 0, [])) (by simp) n (Nat.le_refl n)
        rw [← hst.out] at this
        exact this)
      have HOL := sA (show (if (flowG 0 1 over over.toNat G 0).2 < over then (([], 7) : List S29 × Int) else ((settleGo n ord ((flowG 0 1 over over.toNat G 0).1, [])).2, 0)) = settleOut t q from hf.out.symm)
      dsimp only at hov hOLN HB ⊢
      have hov' := hov.out
      have hOLN' := hOLN.out
      clear hf hst hov
      obtain ⟨r, hr⟩ : ∃ r, r = flowG 0 1 over over.toNat G 0 := ⟨_, rfl⟩
      have HSQ1 := sA (show Sqn N r.1 from by rw [hr]; exact flowG_sq 0 1 over over.toNat G 0 HB.out.sq)
      have HFL := sA (flow_any N (some A13) c13 G 0 1 over wc w2.heap.size okg HB.out.sg HB.out.sq (by omega) (by omega) (by omega) (by omega) (by omega) (by omega) (by omega))
      rw [← hr] at HOL HFL
      clear hr
      by_cases hlt : r.2 < over
      · have hlb : decide (r.2 < over) = true := decide_eq_true hlt
        rw [if_pos hlt] at HOL
        clear hlt
        go_wp2_with (go_at_call 50; refine HFL.out.mono ?_; rintro e w' ⟨rfl, hS, hF⟩; have HF := sA hF; clear hS hF)
        go_ret2
        exact ⟨_, by rw [← HOL.out]; rfl, by rw [← HOL.out]; exact Kd.R_nil _ _ _ _ _, below_step HBw.out (HF.out.below HB.out.be HB.out.be.size (fun k hk => (HOK.out k hk).1))⟩
      · have hlb : decide (r.2 < over) = false := decide_eq_false hlt
        rw [if_neg hlt] at HOL
        clear hlt
        obtain ⟨A16, c16, e16⟩ := Kd.R_slice HB.out.ro
        subst e16
        go_upto_region 38 with (go_at_call 50; refine HFL.out.mono ?_; rintro e w' ⟨rfl, hS, hF⟩; have HS := sA hS; have HF := sA hF; clear hS hF)
        obtain ⟨wq, rfl⟩ : ∃ wo : World, wo = w' := ⟨_, rfl⟩
        obtain ⟨hg9, hhg9⟩ : ∃ h, h = wq.heap.size := ⟨_, rfl⟩
        have HM := sA (show Mvs w2 wq N okg (fun k => hg1 ≤ k ∧ k < hg9) (fun k => hg9 ≤ k) hg9 A13 c13 (.slice A16 ord.length c16) (.slice none 0 0) r.1 ord [] from ⟨HS.out, HSQ1.out, by
          have h1 := Kd.R_step (w1 := wq) HB.out.ro (fun k ho hk => HF.out.block k hk (fun e => by have := (HOK.out k e).2; omega))
          exact Kd.R_mono (Kd.R_bound h1) (fun k hk => ⟨hk.1, by rw [hhg9]; exact hk.2.2.1⟩), Kd.R_nil _ _ _ _ _, HF.out.below HB.out.be HB.out.be.size (fun k hk => (HOK.out k hk).1), by omega, by have h1 := HB.out.hg; have h2 := HF.out.size; have h3 := hg2.out; omega, fun k hk => ⟨(HOK.out k hk).1, by have h1 := HB.out.hg; have h2 := HF.out.size; have h3 := (HOK.out k hk).2; omega⟩, fun k hk => ⟨fun e => by have := (HOK.out k e).2; omega, hk.2⟩, fun _ hk => hk⟩)
        clear HS HF HSQ1 HB hhg9 HFL
        go_wp2_with fail
        go_loopw [20, 193] (fun v20 v193 wr => ∃ (k : Nat) (s : List (List Int) × List S29), v193 = .int .i64 k ∧ Aside0 (k ≤ ord.length) ∧ Aside0 (s.2.length ≤ k) ∧ Aside0 (settleGo n ord (r.1, []) = settleGo n (ord.drop k) s) ∧ Aside0 (Mvs w2 wr N okg (fun k => hg1 ≤ k ∧ k < hg9) (fun k => hg9 ≤ k) hg9 A13 c13 (.slice A16 ord.length c16) v20 s.1 ord s.2)) (fun _ v193 _ => ord.length - (intOf v193).toNat)
        case atStart => exact ⟨0, (r.1, []), rfl, ⟨by omega⟩, ⟨by simp⟩, ⟨rfl⟩, HM⟩
        case round =>
         clear HM
         obtain ⟨k, s, rfl, hkl, hsl, hE, HM⟩ := hrel
         obtain ⟨wo, rfl⟩ : ∃ wo : World, wo = wr := ⟨_, rfl⟩
         have hkl' := hkl.out
         by_cases hlt : k < ord.length
         · have hlb : decide ((k : Int) < (ord.length : Int)) = true := decide_eq_true (by omega)
           have hKI := (by omega : (0 : Int) ≤ k)
           have hKN := (by omega : (k : Int) < ord.length)
           obtain ⟨ad, e, x0, x1, x2, x3⟩ := at_T29 (Kd.R_reads' HM.out.rq).2.2 k hKI hKN
           cases e
           rw [Int.toNat_natCast] at x0 x1 x2 x3
           have hmem : rd_T29 ord k = ord[k] := by simp [rd_T29, List.getD_eq_getElem?_getD, List.getElem?_eq_getElem hlt]
           have hrg := HRG.out ord[k] (List.getElem_mem hlt)
           have hE2 : Aside0 (settleGo n ord (r.1, []) = settleGo n (ord.drop (k + 1)) (settleStep n s ord[k])) := ⟨by rw [hE.out, List.drop_eq_getElem_cons hlt, settleGo]⟩
           rw [hmem] at x0 x1 x2 x3
           obtain ⟨m, hm⟩ : ∃ m, m = ord[k] := ⟨_, rfl⟩
           rw [← hm] at hrg hE2 x0 x1 x2 x3
           clear hmem hm
           obtain ⟨a0, a1, a2, a3⟩ := m
           obtain ⟨⟨p0, q0⟩, ⟨p1, q1⟩, ⟨p2, q2⟩⟩ := hrg
           simp only at p0 q0 p1 q1 p2 q2 x0 x1 x2 x3
           obtain ⟨x, hx⟩ : ∃ x, x = nodeP n a0 a2 := ⟨_, rfl⟩
           obtain ⟨y, hy⟩ : ∃ y, y = nodeT n a1 := ⟨_, rfl⟩
           have hxl := nodeP_lt n a0 a2 p0 q0 p2 q2
           have hyl := nodeT_lt n a1 p1 q1
           rw [← HN.out, ← hx] at hxl
           rw [← HN.out, ← hy] at hyl
           obtain ⟨xl0, xl1⟩ := hxl
           obtain ⟨yl0, yl1⟩ := hyl
           have xl00 : 0 ≤ x := by omega
           have hstep : Aside0 (settleStep n s ⟨a0, a1, a2, a3⟩ = ((flowG y x unlim unlim.toNat (upd (upd s.1 x y 0) y x 0) 0).1, if 0 < wrap64 (get s.1 y x + (flowG y x unlim unlim.toNat (upd (upd s.1 x y 0) y x 0) 0).2) then s.2 ++ [⟨a0, a1, a2, wrap64 (get s.1 y x + (flowG y x unlim unlim.toNat (upd (upd s.1 x y 0) y x 0) 0).2)⟩] else s.2)) := ⟨by rw [hx, hy]; rfl⟩
           have HX := sA (show x = 2 + 2 * (n : Int) + a0 * n + a2 from hx)
           have HY := sA (show y = 2 + (n : Int) + a1 from hy)
           clear hx hy
           go_upto_region 42 with (fail)
           generalize hW2 : wo.alloc (.cells #[.int .i64 a0, .int .i64 a1, .int .i64 a2, .int .i64 a3] 29) = W2
           have BM := sA (show Bx W2 wo.heap.size a0 a1 a2 a3 from by rw [← hW2]; exact heap_at _ rfl)
           have HM2 := sA (show Mvs w2 W2 N okg (fun k => hg1 ≤ k ∧ k < hg9) (fun k => hg9 ≤ k ∧ k ≠ wo.heap.size) hg9 A13 c13 (.slice (some ad) ord.length c16) u20 s.1 ord s.2 from by rw [← hW2]; exact HM.out.alloc _)
           have hbm : Aside0 (hg9 ≤ wo.heap.size) := ⟨HM.out.hg⟩
           generalize wo.heap.size = bm at BM HM2 hbm ⊢
           clear hW2 x0 x1 x2 x3 HM
           obtain ⟨m0, m1, m2, m3, m4⟩ := BM.out.cells
           have hcn : W2.cell? ⟨bn, 0, none⟩ = some (.int .i64 (n : Int)) := (HM2.out.be.cell (p := ⟨bn, 0, none⟩) HBL.out).trans (cell_of_one HBN.out)
           go_quiet (first | (go_at_call 49; refine Calls.quiet_of_same (node49 a0 a2 x n bn _ hcn HX.out (by omega) p0 q0 p2 q2)) | (go_at_call 48; refine Calls.quiet_of_same (node48 a1 y n bn _ hcn HY.out (by omega) p1 q1)))
           clear hcn m0 m1 m2 m3 m4
           have HM3 := sA (HM2.out.drewN nq)
           have BM3 := sA (show Bx (W2.drewN nq) bm a0 a1 a2 a3 from BM.out)
           generalize W2.drewN nq = W3 at HM3 BM3 ⊢
           clear HM2 BM
           obtain ⟨m0, m1, m2, m3, m4⟩ := BM3.out.cells
           obtain ⟨g, d, s0, s1, s2, s3, s5⟩ := HM3.out.at y x (by omega) (by omega) (by omega) (by omega)
           clear s5
           go_upto_region 44 with (fail)
           clear s0 s1 s2 s3 m0 m1 m2 m3 m4
           have HM4 := sA (HM3.out.box hbm.out (fun k hk => hk.2) 3 (.int .i64 (get s.1 y x)))
           have BM4 := sA (BM3.out.put (get s.1 y x))
           generalize W3.setCell ⟨bm, 3, none⟩ (.int .i64 (get s.1 y x)) = W4 at HM4 BM4 ⊢
           clear HM3 BM3
           obtain ⟨g, d, s0, s1, s2, s3, s5⟩ := HM4.out.at x y (by omega) (by omega) (by omega) (by omega)
           obtain ⟨h, d1, t0, t1, t2, t3, t5⟩ := HM4.out.at y x (by omega) (by omega) (by omega) (by omega)
           obtain ⟨h2, d2, r0, r1, r2, r3, r5⟩ := (s5 0).at y x (by omega) (by omega) (by omega) (by omega)
           have hne : (⟨g, y.toNat, none⟩ : Addr) ≠ A13.add y.toNat := fun e => by rw [e, t0] at s1; cases s1
           have hh : h2 = h ∧ d2 = d1 := by
            have := r0
            rw [World.cell?_setCell_other (h := hne), t0] at this
            injection this with e
            injection e with e1 e2 e3
            injection e1 with e1
            injection e1 with e1
            exact ⟨e1.symm, e3.symm⟩
           obtain ⟨rfl, rfl⟩ := hh
           have HM5 := sA (r5 0)
           have BM5 := sA ((BM4.out.far (show g ≠ bm from by have := hbm.out; omega) y.toNat (.int .i64 0)).far (show h2 ≠ bm from by have := hbm.out; omega) x.toNat (.int .i64 0))
           clear s5 t5 r5 hne
           go_region
           go_upto_region 45 with (fail)
           have HM6 := sA HM5.out.drew
           have BM6 := sA BM5.out.drew
           generalize World.drew _ = W6 at HM6 BM6 ⊢
           clear HM5 BM5 HM4 BM4 s0 s1 s2 s3 t0 t1 t2 t3 r0 r1 r2 r3
           obtain ⟨r2, hr2⟩ : ∃ r2, r2 = flowG y x unlim unlim.toNat (upd (upd s.1 x y 0) y x 0) 0 := ⟨_, rfl⟩
           have hr2' : r2 = flowG y x 1125899906842624 (1125899906842624 : Int).toNat (upd (upd s.1 x y 0) y x 0) 0 := hr2
           have HSQ2 := sA (show Sqn N r2.1 from by rw [hr2]; exact flowG_sq _ _ _ _ _ _ HM6.out.sq)
           have HFL := sA (fun (W : World) (hm : Kd.S KT 31 W w2.heap.size okg (.slice (some A13) N c13) (upd (upd s.1 x y 0) y x 0)) => flow_any N (some A13) c13 (upd (upd s.1 x y 0) y x 0) y x 1125899906842624 W w2.heap.size okg hm HM6.out.sq (by omega) (by omega) (by omega) (by omega) (by omega) (by omega) (by omega))
           rw [← hr2'] at HFL
           rw [← hr2] at hstep
           clear hr2 hr2'
           obtain ⟨b, hb⟩ : ∃ b, b = wrap64 (get s.1 y x + r2.2) := ⟨_, rfl⟩
           rw [← hb] at hstep
           have hbw : Aside0 (IntKind.i64.wrap (get s.1 y x + r2.2) = b) := ⟨by rw [hb]; exact IntWalk.i64_left _⟩
           have hnbm : Aside0 (¬ okg bm) := ⟨fun e => by have h1 := (HM6.out.hok bm e).2; have h2 := hbm.out; omega⟩
           go_cut [232] (fun v232 wc => ∃ r : Int, v232 = .int .i64 r ∧ Aside0 (Mvs w2 wc N okg (fun k => hg1 ≤ k ∧ k < hg9) (fun k => hg9 ≤ k ∧ k ≠ bm) hg9 A13 c13 (.slice (some ad) ord.length c16) u20 r2.1 ord s.2) ∧ Aside0 (Bx wc bm a0 a1 a2 b))
           case first =>
            have HM7 := sA HM6.out.drew
            have BM7 := sA BM6.out.drew
            obtain ⟨m0, m1, m2, m3, m4⟩ := BM6.out.cells
            go_region_with (go_at_call 50; refine (HFL.out _ HM7.out.sg).mono ?_; rintro e w' ⟨rfl, hS, hF⟩; have HM8 := sA (HM7.out.fr hF hS HSQ2.out); have BM8 := sA (BM7.out.fr hF hnbm.out); clear hS hF; obtain ⟨n0, n1, n2, n3, n4⟩ := BM8.out.cells)
            all_goals (go_wp2_with fail; go_meet; case rel => exact ⟨_, rfl, by first | exact ⟨HM8.out.box hbm.out (fun k hk => hk.2) 3 _⟩ | exact ⟨(HM8.out.box hbm.out (fun k hk => hk.2) 3 _).drew⟩, by rw [hbw.out]; first | exact ⟨BM8.out.put _⟩ | exact ⟨(BM8.out.put _).drew⟩⟩)
           case rest =>
            clear HM6 BM6 HFL HSQ2
            obtain ⟨r9, rfl, HM, BM⟩ := hcut
            obtain ⟨m0, m1, m2, m3, m4⟩ := BM.out.cells
            by_cases hb0 : 0 < b
            · have hbb : decide (0 < b) = true := decide_eq_true hb0
              rw [if_pos hb0] at hstep
              rw [hstep.out] at hE2
              clear hb0 hb hstep
              have HS2 := sA (show s.2.length ≤ 2000 from by have := hsl.out; omega)
              have HZ8 := HM.out.be.size
              have HG8 := HM.out.hg
              have HBM8 := lt_of_block BM.out
              have hbm' := hbm.out
              go_wp2_with (first | ((with_reducible refine gate_builtin (b := .append) (xs := #[.tmp 238, .tmp 240]) rfl ?_); at_builtin; refine Kd.R_append k29 (w0 := w2) w2.heap.size rfl (.tmp 238) (.tmp 240) 30 29 (.agg #[(.int .i64 0), (.int .i64 0), (.int .i64 0), (.int .i64 0)]) 32 rfl Try.underlying30 info29 rfl (by decide) (by omega) u20 s.2 (⟨a0, a1, a2, b⟩ : S29) [.int .i64 a0, .int .i64 a1, .int .i64 a2, .int .i64 b] (fun k => hg9 ≤ k ∧ k ≠ bm) (fun _ => False) rfl rfl ?aP (fun _ hk => hk.elim) ?aF ?aO ?aB ?aS ?aL ?_; (case aP => exact k29_mkM _ _ _ (⟨a0, a1, a2, b⟩ : S29)); (case aB => exact HM.out.be); (case aF => exact (fun j hj => by show hg9 ≤ j ∧ j ≠ bm; omega)); (case aO => exact HM.out.ro); (case aS => exact HZ8); (case aL => have := HS2.out; omega); intro v17 w9 ho hb hg hat; have HM9 := sA (HM.out.append hg hb ho).weak; clear ho hb hg hat))
              go_roundw
              case rel => exact ⟨k + 1, (r2.1, s.2 ++ [⟨a0, a1, a2, b⟩]), by go_num, ⟨by omega⟩, ⟨by have := hsl.out; rw [List.length_append, List.length_singleton]; omega⟩, hE2, HM9⟩
              case measure => simp [intOf]; omega
            · have hbb : decide (0 < b) = false := decide_eq_false hb0
              rw [if_neg hb0] at hstep
              rw [hstep.out] at hE2
              clear hb0 hb hstep
              go_wp2_with fail
              go_roundw
              case rel => exact ⟨k + 1, (r2.1, s.2), by go_num, ⟨by omega⟩, ⟨by have := hsl.out; show s.2.length ≤ k + 1; omega⟩, hE2, ⟨HM.out.weak⟩⟩
              case measure => simp [intOf]; omega
         · have hlb : decide ((k : Int) < (ord.length : Int)) = false := decide_eq_false (by omega)
           have hfin : Aside0 ((s.2, 0) = settleOut t q) := ⟨by rw [← HOL.out, hE.out, List.drop_of_length_le (by omega), settleGo]⟩
           go_wp2_with fail
           go_ret2
           exact ⟨_, by rw [← hfin.out]; rfl, by rw [← hfin.out]; exact Kd.R_mono (Kd.R_lower HM.out.ro HBw.out.size) (fun _ _ => trivial), below_step HBw.out HM.out.be⟩
end Go.Proofs.Ytdljbmgknhbceaa.A
end
section
namespace Go.Proofs.Ytdljbmgknhbceaa.A
open Go.RowKit Go.Proofs.YtdljbmgknhbceaaW.PrintWords Go.Proofs.YtdljbmgknhbceaaW.PrintLast Go.Proofs.YtdljbmgknhbceaaW.PrintMore Go.Proofs.Ytdljbmgknhbceaa.Q
attribute [local go_sem] max2_int min2_int max_two min_two max_three min_three max_four min_four
theorem sq_of {n : Nat} {T : List (List Int)} (h : Sqn n T) : Sq T := fun i i0 i1 => by rw [h.1] at i1 ⊢; exact h.2 i i0 i1
theorem cycle_own (n : Nat) (A : Option Addr) (c : Nat) (T : List (List Int)) (W : World) (base : Nat) (ok : Nat → Prop) (hs : Kd.S KT 31 W base ok (.slice A n c) T) (hq : Good n T) (hn : n ≤ 12) (len : Nat) (hlen : len < 1000) (hlen1 : 1 ≤ len) :
 Calls Try.prog 54 #[.slice A n c, .int .i64 (len : Int)] W fun e w' => ∃ (Ac : Option Addr) (cc : Nat), e = .returned (.slice Ac (cycleOf T len).length cc) ∧ Kd.R (Kd.int .i64) 3 w' W.heap.size (fun k => W.heap.size ≤ k) (.slice Ac (cycleOf T len).length cc) (cycleOf T len) ∧ (Ac.isNone = decide (cycleOf T len = [])) ∧ Below W.heap.size W w' := by
 obtain ⟨rfl, _, hC⟩ := Kd.S_reads' hs
 refine (cycle_any A c T W hC (sq_of hq.1) (by omega) len hlen hlen1).mono ?_
 rintro e w' ⟨v, rfl, hR, hnil, hb⟩
 obtain ⟨Ac, cc, rfl⟩ := Kd.R_slice hR
 refine ⟨Ac, cc, rfl, Kd.R_mono (Kd.R_bound hR) (fun k hk => hk.2.1), ?_, hb⟩
 by_cases h : cycleOf T len = []
 · have := hnil h
   injection this with h1
   rw [h1, decide_eq_true h]
   rfl
 · rw [decide_eq_false h]
   obtain ⟨ad, e, _⟩ := Kd.at_int (Kd.R_reads' hR).2.2 0 (by omega) (by
     have := List.length_pos_iff.2 h
     omega)
   rw [e]
   rfl
set_option maxHeartbeats 4000000 in
set_option maxRecDepth 100000 in
theorem Cancel_any (A : Option Addr) (c : Nat) (t : List (List Int)) (w : World) (hr : Kd.C KT w A t.length t) :
 Calls Try.prog 27 #[.slice A t.length c] w fun e w' => ∃ v : Value, e = .returned (.tuple #[v, .int .i64 (cancelOut t).2]) ∧ Kd.S KT 31 w' w.heap.size (fun _ => True) v (cancelOut t).1 ∧ Below w.heap.size w w' := by
 have HR := sA hr
 clear hr
 cases hv : validT t with
 | false =>
  have hv' := sA hv
  have hf : Aside0 (cancelOut t = ([], 1)) := ⟨by rw [cancelOut, hv]; rfl⟩
  clear hv
  go_enter Try.func27, Try.ntmps27
  go_wp2_with (go_at_call 18; refine (valid_any _ _ _ _ HR.out).mono ?_; rw [hv'.out]; rintro e w' ⟨rfl, ⟨m, rfl⟩⟩)
  go_ret2
  exact ⟨_, by rw [hf.out]; rfl, by rw [hf.out]; exact Kd.S_nil _ _ _ _ _, pw_below_drewN (Below.refl _ _) _⟩
 | true =>
  have hv' := sA hv
  have hf : Aside0 (cancelOut t = (cancelT t, 0)) := ⟨by rw [cancelOut, hv]; rfl⟩
  have hn12 := (valid_sq hv).1
  have hrows := sA (valid_sq hv).2
  have HG := sA (valid_good hv)
  obtain ⟨n, hn⟩ : ∃ n, n = t.length := ⟨_, rfl⟩
  clear hv
  go_enter Try.func27, Try.ntmps27
  go_wp2_with (first | (go_at_call 18; refine (valid_any _ _ _ _ HR.out).mono ?_; rw [hv'.out]; rintro e w' ⟨rfl, ⟨m, rfl⟩⟩) | (go_at_call 40; refine (copied_any _ _ _ _ (Kd.C_drewN HR.out _) (by omega) (fun r hr => by rw [(hrows.out r hr).1]; omega)).mono ?_; rintro e w2 ⟨v2, rfl, hS, hb⟩; obtain ⟨A6, c6, e6⟩ := Kd.S_slice hS; subst e6; have HS := sA hS; have HB := sA ((pw_below_drewN (Below.refl _ _) _).trans hb); clear hS hb))
  have qT : ∀ (w : World) (a : Option Addr) (n c n' c' : Nat), (binOp .neq 31 (.slice a n c) (.slice none n' c')).run Try.prog w = .ok (.bool (!a.isNone)) w := fun w a n c n' c' => run_neq_slice_nil_any w _ _ a n c n' c' Try.underlying31
  go_loopw [5] (fun l wr => ∃ (len : Nat) (T : List (List Int)), l = .int .i64 (len : Int) ∧ Aside0 (2 ≤ len ∧ len ≤ 14) ∧ Aside0 (cancelT t = cancelFrom (t.length + 1 - len) len T) ∧ Aside0 (Good t.length T) ∧ Aside0 (Kd.S KT 31 wr w.heap.size (fun _ => True) (.slice A6 t.length c6) T) ∧ Aside0 (Below w.heap.size w wr)) (fun l _ => t.length + 2 - (intOf l).toNat)
  case atStart => exact ⟨2, t, rfl, ⟨by omega⟩, ⟨rfl⟩, HG, HS, HB⟩
  case round =>
   clear HS HB
   obtain ⟨len, T, rfl, hlen, hE, hG, HO, HB⟩ := hrel
   have hl2 := hlen.out.1
   have hl14 := hlen.out.2
   by_cases hle : len ≤ t.length
   · have hleb : decide ((len : Int) ≤ (t.length : Int)) = true := decide_eq_true (by omega)
     have hE2 : Aside0 (cancelT t = cancelFrom (t.length - len) (len + 1) (cancelLen len (phi T + 1) T)) := ⟨by rw [hE.out, show t.length + 1 - len = (t.length - len) + 1 from by omega, cancelFrom]⟩
     go_wp2_with (go_at_call 54; refine (cycle_own _ _ _ T _ _ _ HO.out hG.out hn12 len (by omega) (by omega)).mono ?_; rintro e w3 ⟨Ac, cc, rfl, hR, hnn, hb⟩; have HC := sA hR; have HN := sA hnn; have HO3 := sA (Kd.S_mono (Kd.S_below (Kd.S_mono (Kd.S_bound HO.out) (ok' := fun k => k < wr.heap.size) (fun k hk => hk.2.2.1)) hb) (ok' := fun k => k < wr.heap.size) (fun k hk => hk)); have HB3 := sA (below_step HB.out hb); clear hR hnn hb)
     go_loopg [6] (phi T + 1) (fun kq v6 wr' => ∃ (T' : List (List Int)) (Ac : Option Addr) (cc hB : Nat), v6 = .slice Ac (cycleOf T' len).length cc ∧ Aside0 (cancelLen len (phi T + 1) T = cancelLen len kq T') ∧ Aside0 (phi T' < kq) ∧ Aside0 (Good t.length T') ∧ Aside0 (Kd.S KT 31 wr' w.heap.size (fun k => k < hB) (.slice A6 t.length c6) T') ∧ Aside0 (Kd.R (Kd.int .i64) 3 wr' hB (fun k => hB ≤ k) (.slice Ac (cycleOf T' len).length cc) (cycleOf T' len)) ∧ Aside0 (Ac.isNone = decide (cycleOf T' len = [])) ∧ Aside0 (Below w.heap.size w wr'))
     case atStart => exact ⟨T, Ac, cc, wr.heap.size, rfl, ⟨rfl⟩, ⟨by omega⟩, hG, HO3, HC, HN, HB3⟩
     case round =>
      clear HO3 HC HN HB3
      obtain ⟨T', Ad, cd, hB, rfl, hF, hph, hG', HO', HC', HN', HB'⟩ := hrel
      cases gk with
      | zero => exact absurd hph.out (by omega)
      | succ k1 =>
       by_cases hc : cycleOf T' len = []
       · have hfin : Aside0 (cancelLen len (phi T + 1) T = T') := ⟨by rw [hF.out, cancelLen, if_pos hc]⟩
         have hnil : Ad.isNone = true := by rw [HN'.out, decide_eq_true hc]
         obtain ⟨cl, hcl⟩ : ∃ x, x = (cycleOf T' len).length := ⟨_, rfl⟩
         rw [← hcl]
         clear hc hcl
         go_wp2
         go_roundw
         case rel => exact ⟨len + 1, T', by go_num, ⟨by omega⟩, ⟨by rw [hE2.out, hfin.out]; congr 1; omega⟩, hG', ⟨Kd.S_mono HO'.out (fun _ _ => trivial)⟩, HB'⟩
         case measure => simp [intOf]; omega
       · have hcyc := cycle_cyc hG'.out len (by omega) hc
         have hF2 : Aside0 (cancelLen len (phi T + 1) T = cancelLen len k1 (cancelOnce T' (cycleOf T' len))) := ⟨by rw [hF.out, cancelLen, if_neg hc]⟩
         have hnn : Ad.isNone = false := by rw [HN'.out, decide_eq_false hc]
         obtain ⟨C, hC⟩ : ∃ C, C = cycleOf T' len := ⟨_, rfl⟩
         rw [← hC] at hcyc hF2 HC' ⊢
         have hCY := sA hcyc.1
         have hCl : C.length = len := hcyc.2
         rw [hCl] at HC' ⊢
         have HCL := sA hCl
         clear hc hC hcyc hCl HN'
         go_wp2
         obtain ⟨wb, rfl⟩ : ∃ wo : World, wo = wr := ⟨_, rfl⟩
         have hln0 : ((len : Int) == 0) = false := beq_eq_false_iff_ne.2 (by omega)
         have hln1 : ¬ ((len : Int) = 0) := by omega
         go_loopw [7, 33] (fun v7 i wi => ∃ k : Nat, i = .int .i64 k ∧ Aside0 (k ≤ len) ∧ v7 = .int .i64 (leastTo T' C k) ∧ Drawn0 wb wi) (fun _ i _ => len - (intOf i).toNat)
         case atStart => exact ⟨0, rfl, ⟨by omega⟩, rfl, Drawn0.refl _⟩
         case round =>
          obtain ⟨k, rfl, hk, rfl, ⟨m3, rfl⟩⟩ := hrel
          have hkl := hk.out
          by_cases hlt : k < len
          · have hlb : decide ((k : Int) < (len : Int)) = true := decide_eq_true (by omega)
            have hin := hCY.out.ins k (by rw [HCL.out]; exact hlt)
            have hnx := nxt_in hCY.out k
            have hrow := (Kd.R_reads' HC'.out).2.2
            obtain ⟨adc, e, hx1⟩ := Kd.at_int hrow k (by omega) (by rw [HCL.out]; omega)
            cases e
            have hmm : (k + 1) % len < len := Nat.mod_lt _ (by omega)
            obtain ⟨adc', e, hx2⟩ := Kd.at_int hrow (((k + 1) % len : Nat) : Int) (by omega) (by rw [HCL.out]; omega)
            cases e
            rw [Int.toNat_natCast] at hx1 hx2
            have hnd : rd C (((k + 1) % len : Nat) : Int) = nxt C k := by unfold nxt; rw [HCL.out]
            rw [hnd] at hx2
            obtain ⟨a, ha⟩ : ∃ a, a = rd C k := ⟨_, rfl⟩
            obtain ⟨b, hb⟩ : ∃ b, b = nxt C k := ⟨_, rfl⟩
            have hls : Aside0 (leastTo T' C (k + 1) = min (leastTo T' C k) (get T' a b)) := ⟨by rw [leastTo, ha, hb]⟩
            rw [← ha] at hx1 hin
            rw [← hb] at hx2 hnx
            obtain ⟨a0, a1⟩ := hin
            obtain ⟨b0, b1⟩ := hnx
            have hbl : b < ((rd_L1 T' a).length : Int) := by rw [hG'.out.1.2 a a0 a1]; exact b1
            have hA6 : ∃ x, A6 = some x := by
             obtain ⟨A', c', e, hle, hC⟩ := Kd.S_reads HO'.out
             injection e with e1 e2 e3
             obtain ⟨ad', _, _, e9, _⟩ := at_L1 hC a a0 (by rw [hG'.out.1.1]; exact a1)
             exact ⟨ad', by rw [e1, e9]⟩
            obtain ⟨A6, rfl⟩ := hA6
            obtain ⟨g, d, s0, s1, _, _, _, _⟩ := tab_at HO'.out a b a0 (by rw [hG'.out.1.1]; exact a1) b0 hbl
            have hk1 : IntKind.i64.wrap ((k : Int) + 1) = (k : Int) + 1 := IntWalk.i64_in _ (by omega)
            have hk2 : ((k : Int) + 1).tmod (len : Int) = (((k + 1) % len : Nat) : Int) := by rw [Int.tmod_eq_emod_of_nonneg (by omega)]; norm_cast
            have hk3 : IntKind.i64.wrap ((((k + 1) % len : Nat) : Int)) = (((k + 1) % len : Nat) : Int) := IntWalk.i64_in _ (by omega)
            obtain ⟨q, hq⟩ : ∃ q, q = (k + 1) % len := ⟨_, rfl⟩
            rw [← hq] at hx2 hk2 hk3 hmm
            have hmI : (q : Int) < (len : Int) := by omega
            clear hq ha hb hnd hrow
            go_wp2
            go_quiet (fail)
            rw [show (if rd (rd_L1 T' a) b < leastTo T' C k then rd (rd_L1 T' a) b else leastTo T' C k) = leastTo T' C (k + 1) from by rw [hls.out]; unfold get; split <;> omega]
            clear hk1 hk2 hk3
            go_wp2
            go_roundw
            case rel => exact ⟨k + 1, by go_num, ⟨by omega⟩, rfl, upD⟩
            case measure => simp [intOf]; omega
          · have hlb : decide ((k : Int) < (len : Int)) = false := decide_eq_false (by omega)
            obtain rfl : k = len := by omega
            obtain ⟨L, hL⟩ : ∃ L, L = leastTo T' C k := ⟨_, rfl⟩
            have hsub : Aside0 (cancelOnce T' C = subTo T' C L k) := ⟨by rw [cancelOnce, HCL.out, hL]⟩
            have hLp := least_pos hCY.out k (by rw [HCL.out]; omega)
            have hLe := sA (fun i (hi : i < k) => least_le T' C k i hi)
            rw [← hL] at hLp hLe ⊢
            obtain ⟨hLp0, hLp1⟩ := hLp
            clear hL
            go_wp2
            go_loopw [56] (fun i wi => ∃ j : Nat, i = .int .i64 j ∧ Aside0 (j ≤ k) ∧ Aside0 (Kd.S KT 31 wi w.heap.size (fun k => k < hB) (.slice A6 t.length c6) (subTo T' C L j)) ∧ Aside0 (Kd.R (Kd.int .i64) 3 wi hB (fun k => hB ≤ k) (.slice Ad k cd) C) ∧ Aside0 (Below w.heap.size w wi)) (fun i _ => k - (intOf i).toNat)
            case atStart => exact ⟨0, rfl, ⟨by omega⟩, ⟨Kd.S_drewN HO'.out _⟩, ⟨Kd.R_drewN HC'.out _⟩, ⟨pw_below_drewN HB'.out _⟩⟩
            case round =>
             clear HO' HC' HB'
             obtain ⟨j, rfl, hj, HO', HC', HB'⟩ := hrel
             have hjk := hj.out
             by_cases hlt : j < k
             · have hlb2 : decide ((j : Int) < (k : Int)) = true := decide_eq_true (by omega)
               obtain ⟨we, rfl⟩ : ∃ wo : World, wo = wr := ⟨_, rfl⟩
               have hin := hCY.out.ins j (by rw [HCL.out]; exact hlt)
               have hnx := nxt_in hCY.out j
               have hsg := (sub_get hG'.out hCY.out L (by omega) j (by rw [HCL.out]; omega) (fun i hi => hLe.out i (by omega))).1
               have hmm : (j + 1) % k < k := Nat.mod_lt _ (by omega)
               have hnd : rd C (((j + 1) % k : Nat) : Int) = nxt C j := by unfold nxt; rw [HCL.out]
               obtain ⟨a, ha⟩ : ∃ a, a = rd C j := ⟨_, rfl⟩
               obtain ⟨b, hb⟩ : ∃ b, b = nxt C j := ⟨_, rfl⟩
               obtain ⟨T3, hT3⟩ : ∃ T3, T3 = subTo T' C L j := ⟨_, rfl⟩
               have hls : Aside0 (subTo T' C L (j + 1) = upd T3 a b (wrap64 (get T3 a b - L))) := ⟨by rw [subTo, ha, hb, hT3]⟩
               rw [← hT3] at hsg HO'
               rw [← ha] at hin
               rw [← hb] at hnx hnd
               have HND := sA hnd
               have HAA := sA ha
               obtain ⟨a0, a1⟩ := hin
               obtain ⟨b0, b1⟩ := hnx
               have hbl : b < ((rd_L1 T3 a).length : Int) := by rw [hsg.2 a a0 a1]; exact b1
               have hA6 : ∃ x, A6 = some x := by
                obtain ⟨A', c', e, hle, hC⟩ := Kd.S_reads HO'.out
                injection e with e1 e2 e3
                obtain ⟨ad', _, _, e9, _⟩ := at_L1 hC a a0 (by rw [hsg.1]; exact a1)
                exact ⟨ad', by rw [e1, e9]⟩
               obtain ⟨A6, rfl⟩ := hA6
               have hAd : ∃ x, Ad = some x := by
                obtain ⟨adc, e, _⟩ := Kd.at_int (Kd.R_reads' HC'.out).2.2 j (by omega) (by rw [HCL.out]; omega)
                exact ⟨adc, e⟩
               obtain ⟨adc, rfl⟩ := hAd
               have HSQ := sA hsg
               have hk1 : IntKind.i64.wrap ((j : Int) + 1) = (j : Int) + 1 := IntWalk.i64_in _ (by omega)
               have hk2 : ((j : Int) + 1).tmod (k : Int) = (((j + 1) % k : Nat) : Int) := by rw [Int.tmod_eq_emod_of_nonneg (by omega)]; norm_cast
               have hk3 : IntKind.i64.wrap ((((j + 1) % k : Nat) : Int)) = (((j + 1) % k : Nat) : Int) := IntWalk.i64_in _ (by omega)
               obtain ⟨q, hq⟩ : ∃ q, q = (j + 1) % k := ⟨_, rfl⟩
               rw [← hq] at HND hk2 hk3 hmm
               have hmI : (q : Int) < (k : Int) := by omega
               have hz0 : ((k : Int) == 0) = false := beq_eq_false_iff_ne.2 (by omega)
               have hz1 : ¬ ((k : Int) = 0) := by omega
               have hz2 : ¬ (k = 0) := by omega
               obtain ⟨adc0, e, hx0⟩ := Kd.at_int (Kd.R_reads' HC'.out).2.2 j (by omega) (by rw [HCL.out]; omega)
               cases e
               rw [Int.toNat_natCast, ← HAA.out] at hx0
               clear hq ha hb hnd hT3 hsg
               go_wp2
               have HO5 := sA (Kd.S_drew HO'.out)
               have HC5 := sA (Kd.R_drew HC'.out)
               have HB5 := sA (below_drew HB'.out)
               clear hx0
               refine wp_region_still_tail 16 (by kernel_rfl) (by kernel_rfl) ?_
               change wpStill _ _ we.drew (fun a' => wpList _ _ _ _ a' we.drew) _ _
               generalize we.drew = w5 at HO5 HC5 HB5 ⊢
               obtain ⟨adc2, e, hx2⟩ := Kd.at_int (Kd.R_reads' HC5.out).2.2 (q : Int) (by omega) (by rw [HCL.out]; omega)
               cases e
               rw [Int.toNat_natCast, HND.out] at hx2
               obtain ⟨g, d, s0, s1, s2, s3, ⟨hgB, gc, s4⟩, s5⟩ := tab_at HO5.out a b a0 (by rw [HSQ.out.1]; exact a1) b0 hbl
               have S5 := sA s5
               have hgB' := sA hgB
               clear s5 s4 hgB
               simp only [List.take_succ_cons, List.take_zero, List.drop_succ_cons, List.drop_zero]
               repeat still_step
               refine wpStill_nil ?_
               clear hk1 hk2 hk3
               go_wp2
               go_roundw
               case rel => exact ⟨j + 1, by go_num, ⟨by omega⟩, ⟨by rw [hls.out]; exact (S5.out _).1⟩, ⟨Kd.R_far HC5.out (fun k hk => by have := hgB'.out; have : g < hB := this; show k ≠ g; omega) _⟩, ⟨HB5.out.setCell s3 _⟩⟩
               case measure => simp [intOf]; omega
             · have hlb2 : decide ((j : Int) < (k : Int)) = false := decide_eq_false (by omega)
               obtain rfl : j = k := by omega
               rw [← hsub.out] at HO'
               have hcg := cancel_good hG'.out hCY.out
               have HG2 := sA hcg.1
               have hph2 := hcg.2
               obtain ⟨T2, hT2⟩ : ∃ T2, T2 = cancelOnce T' C := ⟨_, rfl⟩
               rw [← hT2] at HO' HG2 hF2 hph2
               have HPH := sA hph2
               clear hT2 hcg hph2
               obtain ⟨we, rfl⟩ : ∃ wo : World, wo = wr := ⟨_, rfl⟩
               go_wp2_with (go_at_call 54; refine (cycle_own _ _ _ T2 _ _ _ HO'.out HG2.out hn12 j (by omega) (by omega)).mono ?_; rintro e w3 ⟨Ac2, cc2, rfl, hR, hnn2, hb⟩; have HC2 := sA hR; have HN2 := sA hnn2; have HO3 := sA (Kd.S_mono (Kd.S_below (Kd.S_mono (Kd.S_bound HO'.out) (ok' := fun k => k < we.heap.size) (fun k hk => hk.2.2.1)) hb) (ok' := fun k => k < we.heap.size) (fun k hk => hk)); have HB3 := sA (below_step HB'.out hb); clear hR hnn2 hb)
               go_roundg k1
               case measure => omega
               case rel => exact ⟨T2, Ac2, cc2, we.heap.size, rfl, hF2, ⟨by have := HPH.out; have := hph.out; omega⟩, HG2, HO3, HC2, HN2, HB3⟩
   · have hleb : decide ((len : Int) ≤ (t.length : Int)) = false := decide_eq_false (by omega)
     have hfin : Aside0 (cancelT t = T) := ⟨by rw [hE.out, show t.length + 1 - len = 0 from by omega]; rfl⟩
     go_wp2
     go_ret2
     exact ⟨_, by rw [hf.out]; rfl, by rw [hf.out, hfin.out]; exact HO.out, HB.out⟩
end Go.Proofs.Ytdljbmgknhbceaa.A
end
section
namespace Go.Proofs.Ytdljbmgknhbceaa.Q
open Go.RowKit Go.Proofs.YtdljbmgknhbceaaW.PrintWords Go.Proofs.YtdljbmgknhbceaaW.PrintLast Go.Proofs.YtdljbmgknhbceaaW.PrintMore
def quota_Valid.f (k : Nat) (l0 : List (List Int)) : Option (Bool) := some (A.validT l0)
theorem quota_Valid.mono : ∀ a0 k, LeO (quota_Valid.f k a0) (quota_Valid.f (k + 1) a0) := by
 intro a0 k
 exact LeO.refl _
theorem quota_Valid.calls (k : Nat) (A0 : Option Addr) (c0 : Nat) (l0 : List (List Int)) (r : Bool) (w : World) (hr0 : Kd.C (Kd.slice 3 (Kd.int .i64)) w A0 l0.length l0) (hc0 : l0.length ≤ c0) (h : quota_Valid.f k l0 = some r) :
 Calls Try.prog 18 #[.slice A0 l0.length c0] w fun e w' => e = .returned (.bool r) ∧ Drawn0 w w' := by
 have e := Option.some.inj h
 subst e
 exact A.valid_any A0 c0 l0 w hr0
end Go.Proofs.Ytdljbmgknhbceaa.Q
namespace Go.Proofs.Ytdljbmgknhbceaa.Q
open Go.RowKit Go.Proofs.YtdljbmgknhbceaaW.PrintWords Go.Proofs.YtdljbmgknhbceaaW.PrintLast Go.Proofs.YtdljbmgknhbceaaW.PrintMore
def quota_held.f (k : Nat) (l0 : List (List Int)) : Option (List Int) := if l0.length < 35184372088832 then some (A.heldT l0) else none
theorem quota_held.mono : ∀ a0 k, LeO (quota_held.f k a0) (quota_held.f (k + 1) a0) := by
 intro a0 k
 exact LeO.refl _
theorem quota_held.calls (k : Nat) (A0 : Option Addr) (c0 : Nat) (l0 : List (List Int)) (r : List Int) (w : World) (hr0 : Kd.C (Kd.slice 3 (Kd.int .i64)) w A0 l0.length l0) (hc0 : l0.length ≤ c0) (h : quota_held.f k l0 = some r) :
 Calls Try.prog 41 #[.slice A0 l0.length c0] w fun e w' => ∃ v0_ : Value, e = .returned (v0_) ∧ Kd.R (Kd.int .i64) 3 w' w.heap.size (fun _ => True) v0_ r ∧ Below w.heap.size w w' := by
 have hl : l0.length < 35184372088832 := by
  rcases Nat.lt_or_ge l0.length 35184372088832 with g | g
  · exact g
  · rw [quota_held.f, if_neg (by omega)] at h; cases h
 rw [quota_held.f, if_pos hl] at h
 have e := Option.some.inj h
 subst e
 exact A.held_any A0 c0 l0 w hr0 hl
end Go.Proofs.Ytdljbmgknhbceaa.Q
namespace Go.Proofs.Ytdljbmgknhbceaa.Q
open Go.RowKit Go.Proofs.YtdljbmgknhbceaaW.PrintWords Go.Proofs.YtdljbmgknhbceaaW.PrintLast Go.Proofs.YtdljbmgknhbceaaW.PrintMore
def quota_Balance.f (k : Nat) (l0 : List (List Int)) : Option (List Int × Int) := some (A.balOut l0)
theorem quota_Balance.mono : ∀ a0 k, LeO (quota_Balance.f k a0) (quota_Balance.f (k + 1) a0) := by
 intro a0 k
 exact LeO.refl _
theorem quota_Balance.calls (k : Nat) (A0 : Option Addr) (c0 : Nat) (l0 : List (List Int)) (r1 : List Int) (r2 : Int) (w : World) (hr0 : Kd.C (Kd.slice 3 (Kd.int .i64)) w A0 l0.length l0) (hc0 : l0.length ≤ c0) (h : quota_Balance.f k l0 = some (r1, r2)) :
 Calls Try.prog 16 #[.slice A0 l0.length c0] w fun e w' => ∃ v0_ : Value, e = .returned (.tuple #[v0_, .int .i64 r2]) ∧ Kd.R (Kd.int .i64) 3 w' w.heap.size (fun _ => True) v0_ r1 ∧ Below w.heap.size w w' := by
 have e := Option.some.inj h
 obtain rfl : (A.balOut l0).1 = r1 := by rw [e]
 obtain rfl : (A.balOut l0).2 = r2 := by rw [e]
 exact A.Balance_any A0 c0 l0 w hr0
end Go.Proofs.Ytdljbmgknhbceaa.Q
namespace Go.Proofs.Ytdljbmgknhbceaa.Q
open Go.RowKit Go.Proofs.YtdljbmgknhbceaaW.PrintWords Go.Proofs.YtdljbmgknhbceaaW.PrintLast Go.Proofs.YtdljbmgknhbceaaW.PrintMore
def quota_fits.f (k : Nat) (l0 : List (List Int)) (l1 : List Int) : Option (Bool) := some (A.fitsT l0 l1)
theorem quota_fits.mono : ∀ a0 a1 k, LeO (quota_fits.f k a0 a1) (quota_fits.f (k + 1) a0 a1) := by
 intro a0 a1 k
 exact LeO.refl _
theorem quota_fits.calls (k : Nat) (A0 : Option Addr) (c0 : Nat) (l0 : List (List Int)) (A1 : Option Addr) (c1 : Nat) (l1 : List Int) (r : Bool) (w : World) (hr0 : Kd.C (Kd.slice 3 (Kd.int .i64)) w A0 l0.length l0) (hc0 : l0.length ≤ c0) (hr1 : Kd.C (Kd.int .i64) w A1 l1.length l1) (hc1 : l1.length ≤ c1) (h : quota_fits.f k l0 l1 = some r) :
 Calls Try.prog 46 #[.slice A0 l0.length c0, .slice A1 l1.length c1] w fun e w' => e = .returned (.bool r) ∧ Drawn0 w w' := by
 have e := Option.some.inj h
 subst e
 exact A.fits_any A0 c0 l0 A1 c1 l1 w hr0 hr1
end Go.Proofs.Ytdljbmgknhbceaa.Q
namespace Go.Proofs.Ytdljbmgknhbceaa.Q
open Go.RowKit Go.Proofs.YtdljbmgknhbceaaW.PrintWords Go.Proofs.YtdljbmgknhbceaaW.PrintLast Go.Proofs.YtdljbmgknhbceaaW.PrintMore
def quota_Settle.f (k : Nat) (l0 : List (List Int)) (l1 : List Int) : Option ((List (S29)) × Int) := some (A.settleOut l0 l1)
theorem quota_Settle.mono : ∀ a0 a1 k, LeO (quota_Settle.f k a0 a1) (quota_Settle.f (k + 1) a0 a1) := by
 intro a0 a1 k
 exact LeO.refl _
theorem quota_Settle.calls (k : Nat) (A0 : Option Addr) (c0 : Nat) (l0 : List (List Int)) (A1 : Option Addr) (c1 : Nat) (l1 : List Int) (r1 : List (S29)) (r2 : Int) (w : World) (hr0 : Kd.C (Kd.slice 3 (Kd.int .i64)) w A0 l0.length l0) (hc0 : l0.length ≤ c0) (hr1 : Kd.C (Kd.int .i64) w A1 l1.length l1) (hc1 : l1.length ≤ c1) (h : quota_Settle.f k l0 l1 = some (r1, r2)) :
 Calls Try.prog 20 #[.slice A0 l0.length c0, .slice A1 l1.length c1] w fun e w' => ∃ v0_ : Value, e = .returned (.tuple #[v0_, .int .i64 r2]) ∧ Kd.R k29 29 w' w.heap.size (fun _ => True) v0_ r1 ∧ Below w.heap.size w w' := by
 have e := Option.some.inj h
 obtain rfl : (A.settleOut l0 l1).1 = r1 := by rw [e]
 obtain rfl : (A.settleOut l0 l1).2 = r2 := by rw [e]
 exact A.Settle_any A0 c0 l0 A1 c1 l1 w hr0 hr1
end Go.Proofs.Ytdljbmgknhbceaa.Q
namespace Go.Proofs.Ytdljbmgknhbceaa.Q
open Go.RowKit Go.Proofs.YtdljbmgknhbceaaW.PrintWords Go.Proofs.YtdljbmgknhbceaaW.PrintLast Go.Proofs.YtdljbmgknhbceaaW.PrintMore
def quota_Allowed.f (k : Nat) (l0 : List (List Int)) (l1 : List Int) (a2 : Int) (a3 : Int) (a4 : Int) : Option (Int × Int) := some (A.allowedOut l0 l1 a2 a3 a4)
theorem quota_Allowed.mono : ∀ a0 a1 a2 a3 a4 k, LeO (quota_Allowed.f k a0 a1 a2 a3 a4) (quota_Allowed.f (k + 1) a0 a1 a2 a3 a4) := by
 intro a0 a1 a2 a3 a4 k
 exact LeO.refl _
theorem quota_Allowed.calls (k : Nat) (A0 : Option Addr) (c0 : Nat) (l0 : List (List Int)) (A1 : Option Addr) (c1 : Nat) (l1 : List Int) (a2 : Int) (a3 : Int) (a4 : Int) (r1 : Int) (r2 : Int) (w : World) (hr0 : Kd.C (Kd.slice 3 (Kd.int .i64)) w A0 l0.length l0) (hc0 : l0.length ≤ c0) (hr1 : Kd.C (Kd.int .i64) w A1 l1.length l1) (hc1 : l1.length ≤ c1) (h : quota_Allowed.f k l0 l1 a2 a3 a4 = some (r1, r2)) :
 Calls Try.prog 22 #[.slice A0 l0.length c0, .slice A1 l1.length c1, .int .i64 a2, .int .i64 a3, .int .i64 a4] w fun e w' => e = .returned (.tuple #[.int .i64 r1, .int .i64 r2]) ∧ Below w.heap.size w w' := by
 have e := Option.some.inj h
 obtain rfl : (A.allowedOut l0 l1 a2 a3 a4).1 = r1 := by rw [e]
 obtain rfl : (A.allowedOut l0 l1 a2 a3 a4).2 = r2 := by rw [e]
 exact A.Allowed_any A0 c0 l0 A1 c1 l1 a2 a3 a4 w hr0 hr1
end Go.Proofs.Ytdljbmgknhbceaa.Q
namespace Go.Proofs.Ytdljbmgknhbceaa.Q
open Go.RowKit Go.Proofs.YtdljbmgknhbceaaW.PrintWords Go.Proofs.YtdljbmgknhbceaaW.PrintLast Go.Proofs.YtdljbmgknhbceaaW.PrintMore
def quota_Cancel.f (k : Nat) (l0 : List (List Int)) : Option ((List (List Int)) × Int) := some (A.cancelOut l0)
theorem quota_Cancel.mono : ∀ a0 k, LeO (quota_Cancel.f k a0) (quota_Cancel.f (k + 1) a0) := by
 intro a0 k
 exact LeO.refl _
theorem quota_Cancel.calls (k : Nat) (A0 : Option Addr) (c0 : Nat) (l0 : List (List Int)) (r1 : List (List Int)) (r2 : Int) (w : World) (hr0 : Kd.C (Kd.slice 3 (Kd.int .i64)) w A0 l0.length l0) (hc0 : l0.length ≤ c0) (h : quota_Cancel.f k l0 = some (r1, r2)) :
 Calls Try.prog 27 #[.slice A0 l0.length c0] w fun e w' => ∃ v0_ : Value, e = .returned (.tuple #[v0_, .int .i64 r2]) ∧ Kd.S (Kd.slice 3 (Kd.int .i64)) 31 w' w.heap.size (fun _ => True) v0_ r1 ∧ Below w.heap.size w w' := by
 have e := Option.some.inj h
 obtain rfl : (A.cancelOut l0).1 = r1 := by rw [e]
 obtain rfl : (A.cancelOut l0).2 = r2 := by rw [e]
 exact A.Cancel_any A0 c0 l0 w hr0
end Go.Proofs.Ytdljbmgknhbceaa.Q
namespace Go.Proofs.Ytdljbmgknhbceaa.Q
open Go.RowKit Go.Proofs.YtdljbmgknhbceaaW.PrintWords Go.Proofs.YtdljbmgknhbceaaW.PrintLast Go.Proofs.YtdljbmgknhbceaaW.PrintMore
def quota_Apply.f (k : Nat) (l0 : List (List Int)) (l1 : List (S29)) : Option ((List (List Int)) × Int) := some (A.applyOut l0 l1)
theorem quota_Apply.mono : ∀ a0 a1 k, LeO (quota_Apply.f k a0 a1) (quota_Apply.f (k + 1) a0 a1) := by
 intro a0 a1 k
 exact LeO.refl _
theorem quota_Apply.calls (k : Nat) (A0 : Option Addr) (c0 : Nat) (l0 : List (List Int)) (A1 : Option Addr) (c1 : Nat) (l1 : List (S29)) (r1 : List (List Int)) (r2 : Int) (w : World) (hr0 : Kd.C (Kd.slice 3 (Kd.int .i64)) w A0 l0.length l0) (hc0 : l0.length ≤ c0) (hr1 : Kd.C k29 w A1 l1.length l1) (hc1 : l1.length ≤ c1) (h : quota_Apply.f k l0 l1 = some (r1, r2)) :
 Calls Try.prog 15 #[.slice A0 l0.length c0, .slice A1 l1.length c1] w fun e w' => ∃ v0_ : Value, e = .returned (.tuple #[v0_, .int .i64 r2]) ∧ Kd.S (Kd.slice 3 (Kd.int .i64)) 31 w' w.heap.size (fun _ => True) v0_ r1 ∧ Below w.heap.size w w' := by
 have e := Option.some.inj h
 obtain rfl : (A.applyOut l0 l1).1 = r1 := by rw [e]
 obtain rfl : (A.applyOut l0 l1).2 = r2 := by rw [e]
 exact A.Apply_any A0 c0 l0 A1 c1 l1 w hr0 hr1
end Go.Proofs.Ytdljbmgknhbceaa.Q
namespace Go.Proofs.Ytdljbmgknhbceaa.Q
open Go.RowKit Go.Proofs.YtdljbmgknhbceaaW.PrintWords Go.Proofs.YtdljbmgknhbceaaW.PrintLast Go.Proofs.YtdljbmgknhbceaaW.PrintMore
def quota_Held.f (k : Nat) (l0 : List (List Int)) : Option (List Int × Int) := some (A.heldOut l0)
theorem quota_Held.mono : ∀ a0 k, LeO (quota_Held.f k a0) (quota_Held.f (k + 1) a0) := by
 intro a0 k
 exact LeO.refl _
theorem quota_Held.calls (k : Nat) (A0 : Option Addr) (c0 : Nat) (l0 : List (List Int)) (r1 : List Int) (r2 : Int) (w : World) (hr0 : Kd.C (Kd.slice 3 (Kd.int .i64)) w A0 l0.length l0) (hc0 : l0.length ≤ c0) (h : quota_Held.f k l0 = some (r1, r2)) :
 Calls Try.prog 21 #[.slice A0 l0.length c0] w fun e w' => ∃ v0_ : Value, e = .returned (.tuple #[v0_, .int .i64 r2]) ∧ Kd.R (Kd.int .i64) 3 w' w.heap.size (fun _ => True) v0_ r1 ∧ Below w.heap.size w w' := by
 have e := Option.some.inj h
 obtain rfl : (A.heldOut l0).1 = r1 := by rw [e]
 obtain rfl : (A.heldOut l0).2 = r2 := by rw [e]
 exact A.Held_any A0 c0 l0 w hr0
end Go.Proofs.Ytdljbmgknhbceaa.Q
end
section
namespace Go.Proofs.Ytdljbmgknhbceaa.Q
open Go.RowKit Go.Proofs.YtdljbmgknhbceaaW.PrintWords Go.Proofs.YtdljbmgknhbceaaW.PrintLast Go.Proofs.YtdljbmgknhbceaaW.PrintMore
attribute [local go_sem] max2_int min2_int max_two min_two max_three min_three max_four min_four
theorem eqA29 (d : Nat) (w : World) (x0 y0 : Int) (x1 y1 : Int) (x2 y2 : Int) (x3 y3 : Int) :
 (Op.equalIn (d + 2) 29 (.agg #[.int .i64 x0, .int .i64 x1, .int .i64 x2, .int .i64 x3]) (.agg #[.int .i64 y0, .int .i64 y1, .int .i64 y2, .int .i64 y3])).run Try.prog w = .ok (x0 == y0 && (x1 == y1 && (x2 == y2 && (x3 == y3)))) w := by
 refine eqA_of Try.underlying29 (by kernel_rfl) ?_
 refine eqf_cons (by rfl) (by go_simp; rfl) (by go_simp; rfl) (by go_simp) ?_
 refine eqf_cons (by rfl) (by go_simp; rfl) (by go_simp; rfl) (by go_simp) ?_
 refine eqf_cons (by rfl) (by go_simp; rfl) (by go_simp; rfl) (by go_simp) ?_
 exact eqf_last (by rfl) (by go_simp; rfl) (by go_simp; rfl) (by go_simp)
def kinkeeplaw35_awake.f (k : Nat) : Option Bool := some true
theorem kinkeeplaw35_awake.mono : ∀ k, LeO (kinkeeplaw35_awake.f k) (kinkeeplaw35_awake.f (k + 1)) := fun _ => LeO.refl _
def awake.ex : List (List Int) := [[0, 5, 2], [3, 0, 0], [0, 4, 0]]
theorem awake.ev1 : A.balOut awake.ex = ([-4, 6, -2], 0) := by kernel_rfl
theorem awake.ev2 : A.allowedOut awake.ex [10, 10, 10] 8 2 1 = (2, 0) := by kernel_rfl
theorem awake.ev3 : A.cancelOut awake.ex = ([[0, 2, 2], [0, 0, 0], [0, 4, 0]], 0) := by kernel_rfl
theorem awake.ev4 : A.settleOut awake.ex [5, 9, 9] = ([⟨0, 2, 1, 2⟩], 0) := by kernel_rfl
theorem awake.ev5 : A.settleOut awake.ex [5, 4, 4] = ([], 7) := by kernel_rfl
set_option maxHeartbeats 8000000 in
set_option maxRecDepth 100000 in
theorem kinkeeplaw35_awake.calls (k0 : Nat) (r : Bool) (w : World) (h : kinkeeplaw35_awake.f k0 = some r) :
 Calls Try.prog 14 #[] w fun e w' => e = .returned (.bool r) ∧ Below w.heap.size w w' := by
 have hu29 := Try.underlying29
 obtain rfl : true = r := Option.some.inj h
 clear h
 have HB := sA (Below.refl w.heap.size w)
 obtain ⟨k, hk⟩ : ∃ k : Nat, k = 30 := ⟨_, rfl⟩
 obtain ⟨t203, q203⟩ : ∃ t, t = awake.ex := ⟨_, rfl⟩
 obtain ⟨t206, q206⟩ : ∃ t : List Int, t = [-4, 6, -2] := ⟨_, rfl⟩
 obtain ⟨t207, q207⟩ : ∃ t : Int, t = 0 := ⟨_, rfl⟩
 obtain ⟨t216, q216⟩ : ∃ t : Int, t = 2 := ⟨_, rfl⟩
 obtain ⟨t221, q221⟩ : ∃ t : List (List Int), t = [[0, 2, 2], [0, 0, 0], [0, 4, 0]] := ⟨_, rfl⟩
 obtain ⟨t231, q231⟩ : ∃ t : List S29, t = [⟨0, 2, 1, 2⟩] := ⟨_, rfl⟩
 obtain ⟨t241, q241⟩ : ∃ t : List S29, t = [] := ⟨_, rfl⟩
 obtain ⟨t242, q242⟩ : ∃ t : Int, t = 7 := ⟨_, rfl⟩
 obtain ⟨t210, q210⟩ : ∃ t, t = t203 := ⟨_, rfl⟩
 obtain ⟨t218, q218⟩ : ∃ t, t = t203 := ⟨_, rfl⟩
 obtain ⟨t225, q225⟩ : ∃ t, t = t203 := ⟨_, rfl⟩
 obtain ⟨t235, q235⟩ : ∃ t, t = t203 := ⟨_, rfl⟩
 obtain ⟨t217, q217⟩ : ∃ t, t = t207 := ⟨_, rfl⟩
 obtain ⟨t222, q222⟩ : ∃ t, t = t207 := ⟨_, rfl⟩
 obtain ⟨t232, q232⟩ : ∃ t, t = t207 := ⟨_, rfl⟩
 obtain ⟨y213, hy213⟩ : ∃ y_ : List Int, y_ = (([10, 10, 10] : List Int)) := ⟨_, rfl⟩
 obtain ⟨y228, hy228⟩ : ∃ y_ : List Int, y_ = (([5, 9, 9] : List Int)) := ⟨_, rfl⟩
 obtain ⟨y238, hy238⟩ : ∃ y_ : List Int, y_ = (([5, 4, 4] : List Int)) := ⟨_, rfl⟩
 obtain ⟨y245, hy245⟩ : ∃ y_ : List Int, y_ = (([(-4), 6, (-2)] : List Int)) := ⟨_, rfl⟩
 obtain ⟨y249, hy249⟩ : ∃ y_ : List Int, y_ = (([0, 2, 2] : List Int)) := ⟨_, rfl⟩
 obtain ⟨y252, hy252⟩ : ∃ y_ : List Int, y_ = (([0, 0, 0] : List Int)) := ⟨_, rfl⟩
 obtain ⟨y255, hy255⟩ : ∃ y_ : List Int, y_ = (([0, 4, 0] : List Int)) := ⟨_, rfl⟩
 obtain ⟨y258, hy258⟩ : ∃ y_ : List (List Int), y_ = (([y249, y252, y255] : List (List Int))) := ⟨_, rfl⟩
 have A1 := sA (show kinkeeplaw35_example.f = some t203 from by rw [q203]; rfl)
 have A2 := sA (show quota_Balance.f k t203 = some (t206, t207) from by rw [q203, q206, q207, quota_Balance.f, awake.ev1])
 have A3 := sA (show kinkeeplaw35_example.f = some t210 from by rw [q210]; exact A1.out)
 have A4 := sA (show quota_Allowed.f k t210 y213 8 2 1 = some (t216, t217) from by rw [q210, q203, q216, q217, q207, hy213, quota_Allowed.f, awake.ev2])
 have A5 := sA (show kinkeeplaw35_example.f = some t218 from by rw [q218]; exact A1.out)
 have A6 := sA (show quota_Cancel.f k t218 = some (t221, t222) from by rw [q218, q203, q221, q222, q207, quota_Cancel.f, awake.ev3])
 have A7 := sA (show kinkeeplaw35_example.f = some t225 from by rw [q225]; exact A1.out)
 have A8 := sA (show quota_Settle.f k t225 y228 = some (t231, t232) from by rw [q225, q203, q231, q232, q207, hy228, quota_Settle.f, awake.ev4])
 have A9 := sA (show kinkeeplaw35_example.f = some t235 from by rw [q235]; exact A1.out)
 have A10 := sA (show quota_Settle.f k t235 y238 = some (t241, t242) from by rw [q235, q203, q241, q242, hy238, quota_Settle.f, awake.ev5])
 have A12 := sA (show kinkeepref35_SameInts.f k t206 y245 = some true from by rw [hk, q206, hy245]; kernel_rfl)
 have A17 := sA (show kinkeepref35_Same.f k t221 y258 = some true from by rw [hk, q221, hy258, hy249, hy252, hy255]; kernel_rfl)
 have c11b0 : (t207 == 0) = true := by rw [q207]; rfl
 have c11b1 : (t207 != 0) = false := by rw [q207]; rfl
 have c14b0 : (t217 == 0) = true := by rw [q217, q207]; rfl
 have c14b1 : (t217 != 0) = false := by rw [q217, q207]; rfl
 have c15b0 : (t216 == 2) = true := by rw [q216]; rfl
 have c15b1 : (t216 != 2) = false := by rw [q216]; rfl
 have c16b0 : (t222 == 0) = true := by rw [q222, q207]; rfl
 have c16b1 : (t222 != 0) = false := by rw [q222, q207]; rfl
 have c19b0 : (t232 == 0) = true := by rw [q232, q207]; rfl
 have c19b1 : (t232 != 0) = false := by rw [q232, q207]; rfl
 have c20b0 : ((t231.length : Int) == 1) = true := by rw [q231]; rfl
 have c20b1 : ((t231.length : Int) != 1) = false := by rw [q231]; rfl
 have c21b0 : decide (0 < (t231.length : Int)) = true := by rw [q231]; rfl
 have c21b1 : decide (0 < t231.length) = true := by rw [q231]; rfl
 have c22b0 : (((rd_T29 t231 0).f0) == 0 && (((rd_T29 t231 0).f1) == 2 && (((rd_T29 t231 0).f2) == 1 && (((rd_T29 t231 0).f3) == 2)))) = true := by rw [q231]; rfl
 (try (have c22b1 : decide (((rd_T29 t231 0).f0) = 0 && (((rd_T29 t231 0).f1) == 2 && (((rd_T29 t231 0).f2) == 1 && (((rd_T29 t231 0).f3) == 2)))) = true := by simpa using c22b0))
 have d0 : ((rd_T29 t231 0).f0 == 0) = true := by rw [q231]; rfl
 have d1 : ((rd_T29 t231 0).f1 == 2) = true := by rw [q231]; rfl
 have d2 : ((rd_T29 t231 0).f2 == 1) = true := by rw [q231]; rfl
 have d3 : ((rd_T29 t231 0).f3 == 2) = true := by rw [q231]; rfl
 have c30b0 : (t242 == 7) = true := by rw [q242]; rfl
 have Ny213 := sA hy213
 have Ny228 := sA hy228
 have Ny238 := sA hy238
 have Ny245 := sA hy245
 have Ny249 := sA hy249
 have Ny252 := sA hy252
 have Ny255 := sA hy255
 have Ny258 := sA hy258
 clear hy213 hy228 hy238 hy245 hy249 hy252 hy255 hy258 q203 q206 q207 q216 q221 q231 q241 q242 q210 q218 q225 q235 q217 q222 q232 hk
 go_enter Try.func14, Try.ntmps14
 go_wp2_with (first | ((with_reducible refine gate_callee (f := 36) rfl ?_); refine goesL_ (some 12) rfl rfl Try.func36 (by kernel_rfl) rfl #[] rfl upM ?_; (with_reducible refine (kinkeeplaw35_example.calls  t203 _ A1.out).mono ?_); rintro e w23 ⟨v204, rfl, ho0, hb⟩; refine ⟨_, rfl, ?_⟩; have n0_ := sA (Kd.N_lower (Kd.N_mono (ok' := fun k_ => True) ho0 (fun k_ hk_ => trivial)) (below_size (upC HB.out))); have n1_ := sA (below_step (upC HB.out) hb); clear HB; have HO205 := n0_; have HB := n1_; clear n0_ n1_; (try clear hb); (try clear hb2); (try clear hk); (try clear hi); (try clear ho0); obtain ⟨Ao24, co24, eo24⟩ := Kd.N_slice HO205.out; subst eo24) | ((with_reducible refine gate_callee (f := 16) rfl ?_); refine goesL_ (some 13) rfl rfl Try.func16 (by kernel_rfl) rfl #[.slice Ao24 t203.length co24] rfl upM ?_; (with_reducible refine (quota_Balance.calls k _ _ t203 t206 t207 _ ?side1 ?side2 A2.out).mono ?_); (case side1 => exact upX (Kd.N_reads' HO205.out).2.2); (case side2 => exact (Kd.N_reads' HO205.out).2.1); rintro e w25 ⟨v208, rfl, ho0, hb⟩; refine ⟨_, rfl, ?_⟩; have n0_ := sA (Kd.N_elder' (upN HO205.out) (Kd.R_base ho0) hb); have n1_ := sA (Kd.R_lower ho0 (below_size (upC HB.out))); have n2_ := sA (below_step (upC HB.out) hb); clear HO205; clear HB; have HO205 := n0_; have HO209 := n1_; have HB := n2_; clear n0_ n1_ n2_; (try clear hb); (try clear hb2); (try clear hk); (try clear hi); (try clear ho0)) | ((with_reducible refine gate_callee (f := 36) rfl ?_); refine goesL_ (some 17) rfl rfl Try.func36 (by kernel_rfl) rfl #[] rfl upM ?_; (with_reducible refine (kinkeeplaw35_example.calls  t210 _ A3.out).mono ?_); rintro e w26 ⟨v211, rfl, ho0, hb⟩; refine ⟨_, rfl, ?_⟩; have n0_ := sA (Kd.N_elder' (upN HO205.out) ((by first | exact Kd.N_base ho0 | exact Kd.N_base (Kd.S_N ho0))) hb); have n1_ := sA (Kd.R_below (upR HO209.out) hb); have n2_ := sA (Kd.N_lower (Kd.N_mono (ok' := fun k_ => some k_ ≠ (.slice Ao24 t203.length co24 : Value).ownBlock ∧ some k_ ≠ (v208 : Value).ownBlock) ho0 (fun k_ hk_ => ⟨(Kd.fresh' (Kd.N_lt (upN HO205.out)) k_ hk_), (Kd.fresh' (Kd.R_lt (upR HO209.out)) k_ hk_)⟩)) (below_size (upC HB.out))); have n3_ := sA (below_step (upC HB.out) hb); clear HO205; clear HO209; clear HB; have HO205 := n0_; have HO209 := n1_; have HO212 := n2_; have HB := n3_; clear n0_ n1_ n2_ n3_; (try clear hb); (try clear hb2); (try clear hk); (try clear hi); (try clear ho0)) | ((with_reducible refine gate_dst (N := 18) rfl ?_); (try (refine gate_guard (by rfl) ?_; dsimp only)); refine Kd.R_lit (Kd.int .i64) _ 3 ?hg (N := 18) ?hd (xs := ([10, 10, 10] : List Int)) (inner := [.int .i64 10, .int .i64 10, .int .i64 10]) (ok := fun _ => True) (okp := fun _ => True) ?hr ?hp (fun _ hk => hk) trivial (Below.refl _ _) (Nat.le_refl _) (by simp) ?_; (case hd => rfl); (case hg => rfl); (case hr => first | (go_simp; done) | (go_simp; rfl)); (case hp => exact (Reps.one (show Kd.M (Kd.int .i64) _ _ _ 10 [.int .i64 10] from rfl) (Reps.one (show Kd.M (Kd.int .i64) _ _ _ 10 [.int .i64 10] from rfl) (Reps.one (show Kd.M (Kd.int .i64) _ _ _ 10 [.int .i64 10] from rfl) (Reps.none _ _))))); intro v214 w27 ho28 hb hg_ hnew_; clear hg_ hnew_; (first | rw [← Ny213.out] at ho28 | (simp only [Int.reduceToNat] at ho28; rw [← Ny213.out] at ho28)); have n0_ := sA (Kd.N_elder' (upN HO205.out) (Kd.R_base ho28) hb); have n1_ := sA (Kd.R_elder' (upR HO209.out) (Kd.R_base ho28) hb); have n2_ := sA (Kd.N_elder' (upN HO212.out) (Kd.R_base ho28) hb); have n3_ := sA (Kd.R_lower (Kd.R_new' ho28 (Kd.R_lt (upR HO209.out))) (below_size (upC HB.out))); have n4_ := sA (below_step (upC HB.out) hb); clear HO205; clear HO209; clear HO212; clear HB; have HO205 := n0_; have HO209 := n1_; have HO212 := n2_; have HO215 := n3_; have HB := n4_; clear n0_ n1_ n2_ n3_ n4_; clear hb ho28; obtain ⟨Ao29, co29, eo29⟩ := Kd.N_slice HO212.out; subst eo29; obtain ⟨Ao30, co30, eo30⟩ := Kd.R_slice HO215.out; subst eo30) | ((with_reducible refine gate_callee (f := 22) rfl ?_); refine goesL_ (some 19) rfl rfl Try.func22 (by kernel_rfl) rfl #[.slice Ao29 t210.length co29, .slice Ao30 y213.length co30, .int .i64 8, .int .i64 2, .int .i64 1] rfl upM ?_; (with_reducible refine (quota_Allowed.calls k _ _ t210 _ _ y213 8 2 1 t216 t217 _ ?side1 ?side2 ?side3 ?side4 A4.out).mono ?_); (case side1 => exact upX (Kd.N_reads' HO212.out).2.2); (case side2 => exact (Kd.N_reads' HO212.out).2.1); (case side3 => exact upX (Kd.R_reads' HO215.out).2.2); (case side4 => exact (Kd.R_reads' HO215.out).2.1); rintro e w31 ⟨rfl, hb⟩; refine ⟨_, rfl, ?_⟩; have n0_ := sA (Kd.N_below (upN HO205.out) hb); have n1_ := sA (Kd.R_below (upR HO209.out) hb); have n2_ := sA (Kd.N_below (upN HO212.out) hb); have n3_ := sA (Kd.R_below (upR HO215.out) hb); have n4_ := sA (below_step (upC HB.out) hb); clear HO205; clear HO209; clear HO212; clear HO215; clear HB; have HO205 := n0_; have HO209 := n1_; have HO212 := n2_; have HO215 := n3_; have HB := n4_; clear n0_ n1_ n2_ n3_ n4_; (try clear hb); (try clear hb2); (try clear hk); (try clear hi)) | ((with_reducible refine gate_callee (f := 36) rfl ?_); refine goesL_ (some 23) rfl rfl Try.func36 (by kernel_rfl) rfl #[] rfl upM ?_; (with_reducible refine (kinkeeplaw35_example.calls  t218 _ A5.out).mono ?_); rintro e w32 ⟨v219, rfl, ho0, hb⟩; refine ⟨_, rfl, ?_⟩; have n0_ := sA (Kd.N_elder' (upN HO205.out) ((by first | exact Kd.N_base ho0 | exact Kd.N_base (Kd.S_N ho0))) hb); have n1_ := sA (Kd.R_below (upR HO209.out) hb); have n2_ := sA (Kd.N_elder' (upN HO212.out) ((by first | exact Kd.N_base ho0 | exact Kd.N_base (Kd.S_N ho0))) hb); have n3_ := sA (Kd.R_below (upR HO215.out) hb); have n4_ := sA (Kd.N_lower (Kd.N_mono (ok' := fun k_ => some k_ ≠ (.slice Ao24 t203.length co24 : Value).ownBlock ∧ some k_ ≠ (v208 : Value).ownBlock ∧ some k_ ≠ (.slice Ao29 t210.length co29 : Value).ownBlock ∧ some k_ ≠ (.slice Ao30 y213.length co30 : Value).ownBlock) ho0 (fun k_ hk_ => ⟨(Kd.fresh' (Kd.N_lt (upN HO205.out)) k_ hk_), (Kd.fresh' (Kd.R_lt (upR HO209.out)) k_ hk_), (Kd.fresh' (Kd.N_lt (upN HO212.out)) k_ hk_), (Kd.fresh' (Kd.R_lt (upR HO215.out)) k_ hk_)⟩)) (below_size (upC HB.out))); have n5_ := sA (below_step (upC HB.out) hb); clear HO205; clear HO209; clear HO212; clear HO215; clear HB; have HO205 := n0_; have HO209 := n1_; have HO212 := n2_; have HO215 := n3_; have HO220 := n4_; have HB := n5_; clear n0_ n1_ n2_ n3_ n4_ n5_; (try clear hb); (try clear hb2); (try clear hk); (try clear hi); (try clear ho0); obtain ⟨Ao33, co33, eo33⟩ := Kd.N_slice HO220.out; subst eo33) | ((with_reducible refine gate_callee (f := 27) rfl ?_); refine goesL_ (some 24) rfl rfl Try.func27 (by kernel_rfl) rfl #[.slice Ao33 t218.length co33] rfl upM ?_; (with_reducible refine (quota_Cancel.calls k _ _ t218 t221 t222 _ ?side1 ?side2 A6.out).mono ?_); (case side1 => exact upX (Kd.N_reads' HO220.out).2.2); (case side2 => exact (Kd.N_reads' HO220.out).2.1); rintro e w34 ⟨v223, rfl, ho0, hb⟩; refine ⟨_, rfl, ?_⟩; have n0_ := sA (Kd.N_elder' (upN HO205.out) ((by first | exact Kd.N_base ho0 | exact Kd.N_base (Kd.S_N ho0))) hb); have n1_ := sA (Kd.R_below (upR HO209.out) hb); have n2_ := sA (Kd.N_elder' (upN HO212.out) ((by first | exact Kd.N_base ho0 | exact Kd.N_base (Kd.S_N ho0))) hb); have n3_ := sA (Kd.R_below (upR HO215.out) hb); have n4_ := sA (Kd.N_elder' (upN HO220.out) ((by first | exact Kd.N_base ho0 | exact Kd.N_base (Kd.S_N ho0))) hb); have n5_ := sA (Kd.N_lower (Kd.N_mono (ok' := fun k_ => some k_ ≠ (.slice Ao24 t203.length co24 : Value).ownBlock ∧ some k_ ≠ (v208 : Value).ownBlock ∧ some k_ ≠ (.slice Ao29 t210.length co29 : Value).ownBlock ∧ some k_ ≠ (.slice Ao30 y213.length co30 : Value).ownBlock ∧ some k_ ≠ (.slice Ao33 t218.length co33 : Value).ownBlock) (Kd.S_N (Kd.S_bound ho0)) (fun k_ hk_ => ⟨(Kd.fresh' (Kd.N_lt (upN HO205.out)) k_ hk_.2.1), (Kd.fresh' (Kd.R_lt (upR HO209.out)) k_ hk_.2.1), (Kd.fresh' (Kd.N_lt (upN HO212.out)) k_ hk_.2.1), (Kd.fresh' (Kd.R_lt (upR HO215.out)) k_ hk_.2.1), (Kd.fresh' (Kd.N_lt (upN HO220.out)) k_ hk_.2.1)⟩)) (below_size (upC HB.out))); have n6_ := sA (below_step (upC HB.out) hb); clear HO205; clear HO209; clear HO212; clear HO215; clear HO220; clear HB; have HO205 := n0_; have HO209 := n1_; have HO212 := n2_; have HO215 := n3_; have HO220 := n4_; have HO224 := n5_; have HB := n6_; clear n0_ n1_ n2_ n3_ n4_ n5_ n6_; (try clear hb); (try clear hb2); (try clear hk); (try clear hi); (try clear ho0)) | ((with_reducible refine gate_callee (f := 36) rfl ?_); refine goesL_ (some 28) rfl rfl Try.func36 (by kernel_rfl) rfl #[] rfl upM ?_; (with_reducible refine (kinkeeplaw35_example.calls  t225 _ A7.out).mono ?_); rintro e w35 ⟨v226, rfl, ho0, hb⟩; refine ⟨_, rfl, ?_⟩; have n0_ := sA (Kd.N_elder' (upN HO205.out) ((by first | exact Kd.N_base ho0 | exact Kd.N_base (Kd.S_N ho0))) hb); have n1_ := sA (Kd.R_below (upR HO209.out) hb); have n2_ := sA (Kd.N_elder' (upN HO212.out) ((by first | exact Kd.N_base ho0 | exact Kd.N_base (Kd.S_N ho0))) hb); have n3_ := sA (Kd.R_below (upR HO215.out) hb); have n4_ := sA (Kd.N_elder' (upN HO220.out) ((by first | exact Kd.N_base ho0 | exact Kd.N_base (Kd.S_N ho0))) hb); have n5_ := sA (Kd.N_elder' (upN HO224.out) ((by first | exact Kd.N_base ho0 | exact Kd.N_base (Kd.S_N ho0))) hb); have n6_ := sA (Kd.N_lower (Kd.N_mono (ok' := fun k_ => some k_ ≠ (.slice Ao24 t203.length co24 : Value).ownBlock ∧ some k_ ≠ (v208 : Value).ownBlock ∧ some k_ ≠ (.slice Ao29 t210.length co29 : Value).ownBlock ∧ some k_ ≠ (.slice Ao30 y213.length co30 : Value).ownBlock ∧ some k_ ≠ (.slice Ao33 t218.length co33 : Value).ownBlock ∧ some k_ ≠ (v223 : Value).ownBlock) ho0 (fun k_ hk_ => ⟨(Kd.fresh' (Kd.N_lt (upN HO205.out)) k_ hk_), (Kd.fresh' (Kd.R_lt (upR HO209.out)) k_ hk_), (Kd.fresh' (Kd.N_lt (upN HO212.out)) k_ hk_), (Kd.fresh' (Kd.R_lt (upR HO215.out)) k_ hk_), (Kd.fresh' (Kd.N_lt (upN HO220.out)) k_ hk_), (Kd.fresh' (Kd.N_lt (upN HO224.out)) k_ hk_)⟩)) (below_size (upC HB.out))); have n7_ := sA (below_step (upC HB.out) hb); clear HO205; clear HO209; clear HO212; clear HO215; clear HO220; clear HO224; clear HB; have HO205 := n0_; have HO209 := n1_; have HO212 := n2_; have HO215 := n3_; have HO220 := n4_; have HO224 := n5_; have HO227 := n6_; have HB := n7_; clear n0_ n1_ n2_ n3_ n4_ n5_ n6_ n7_; (try clear hb); (try clear hb2); (try clear hk); (try clear hi); (try clear ho0)) | ((with_reducible refine gate_dst (N := 29) rfl ?_); (try (refine gate_guard (by rfl) ?_; dsimp only)); refine Kd.R_lit (Kd.int .i64) _ 3 ?hg (N := 29) ?hd (xs := ([5, 9, 9] : List Int)) (inner := [.int .i64 5, .int .i64 9, .int .i64 9]) (ok := fun _ => True) (okp := fun _ => True) ?hr ?hp (fun _ hk => hk) trivial (Below.refl _ _) (Nat.le_refl _) (by simp) ?_; (case hd => rfl); (case hg => rfl); (case hr => first | (go_simp; done) | (go_simp; rfl)); (case hp => exact (Reps.one (show Kd.M (Kd.int .i64) _ _ _ 5 [.int .i64 5] from rfl) (Reps.one (show Kd.M (Kd.int .i64) _ _ _ 9 [.int .i64 9] from rfl) (Reps.one (show Kd.M (Kd.int .i64) _ _ _ 9 [.int .i64 9] from rfl) (Reps.none _ _))))); intro v229 w36 ho37 hb hg_ hnew_; clear hg_ hnew_; (first | rw [← Ny228.out] at ho37 | (simp only [Int.reduceToNat] at ho37; rw [← Ny228.out] at ho37)); have n0_ := sA (Kd.N_elder' (upN HO205.out) (Kd.R_base ho37) hb); have n1_ := sA (Kd.R_elder' (upR HO209.out) (Kd.R_base ho37) hb); have n2_ := sA (Kd.N_elder' (upN HO212.out) (Kd.R_base ho37) hb); have n3_ := sA (Kd.R_elder' (upR HO215.out) (Kd.R_base ho37) hb); have n4_ := sA (Kd.N_elder' (upN HO220.out) (Kd.R_base ho37) hb); have n5_ := sA (Kd.N_elder' (upN HO224.out) (Kd.R_base ho37) hb); have n6_ := sA (Kd.N_elder' (upN HO227.out) (Kd.R_base ho37) hb); have n7_ := sA (Kd.R_lower (Kd.R_new' (Kd.R_new' ho37 (Kd.R_lt (upR HO209.out))) (Kd.R_lt (upR HO215.out))) (below_size (upC HB.out))); have n8_ := sA (below_step (upC HB.out) hb); clear HO205; clear HO209; clear HO212; clear HO215; clear HO220; clear HO224; clear HO227; clear HB; have HO205 := n0_; have HO209 := n1_; have HO212 := n2_; have HO215 := n3_; have HO220 := n4_; have HO224 := n5_; have HO227 := n6_; have HO230 := n7_; have HB := n8_; clear n0_ n1_ n2_ n3_ n4_ n5_ n6_ n7_ n8_; clear hb ho37; obtain ⟨Ao38, co38, eo38⟩ := Kd.N_slice HO227.out; subst eo38; obtain ⟨Ao39, co39, eo39⟩ := Kd.R_slice HO230.out; subst eo39) | ((with_reducible refine gate_callee (f := 20) rfl ?_); refine goesL_ (some 30) rfl rfl Try.func20 (by kernel_rfl) rfl #[.slice Ao38 t225.length co38, .slice Ao39 y228.length co39] rfl upM ?_; (with_reducible refine (quota_Settle.calls k _ _ t225 _ _ y228 t231 t232 _ ?side1 ?side2 ?side3 ?side4 A8.out).mono ?_); (case side1 => exact upX (Kd.N_reads' HO227.out).2.2); (case side2 => exact (Kd.N_reads' HO227.out).2.1); (case side3 => exact upX (Kd.R_reads' HO230.out).2.2); (case side4 => exact (Kd.R_reads' HO230.out).2.1); rintro e w40 ⟨v233, rfl, ho0, hb⟩; refine ⟨_, rfl, ?_⟩; have n0_ := sA (Kd.N_elder' (upN HO205.out) (Kd.R_base ho0) hb); have n1_ := sA (Kd.R_below (upR HO209.out) hb); have n2_ := sA (Kd.N_elder' (upN HO212.out) (Kd.R_base ho0) hb); have n3_ := sA (Kd.R_below (upR HO215.out) hb); have n4_ := sA (Kd.N_elder' (upN HO220.out) (Kd.R_base ho0) hb); have n5_ := sA (Kd.N_elder' (upN HO224.out) (Kd.R_base ho0) hb); have n6_ := sA (Kd.N_elder' (upN HO227.out) (Kd.R_base ho0) hb); have n7_ := sA (Kd.R_below (upR HO230.out) hb); have n8_ := sA (Kd.R_lower ho0 (below_size (upC HB.out))); have n9_ := sA (below_step (upC HB.out) hb); clear HO205; clear HO209; clear HO212; clear HO215; clear HO220; clear HO224; clear HO227; clear HO230; clear HB; have HO205 := n0_; have HO209 := n1_; have HO212 := n2_; have HO215 := n3_; have HO220 := n4_; have HO224 := n5_; have HO227 := n6_; have HO230 := n7_; have HO234 := n8_; have HB := n9_; clear n0_ n1_ n2_ n3_ n4_ n5_ n6_ n7_ n8_ n9_; (try clear hb); (try clear hb2); (try clear hk); (try clear hi); (try clear ho0)) | ((with_reducible refine gate_callee (f := 36) rfl ?_); refine goesL_ (some 34) rfl rfl Try.func36 (by kernel_rfl) rfl #[] rfl upM ?_; (with_reducible refine (kinkeeplaw35_example.calls  t235 _ A9.out).mono ?_); rintro e w41 ⟨v236, rfl, ho0, hb⟩; refine ⟨_, rfl, ?_⟩; have n0_ := sA (Kd.N_elder' (upN HO205.out) ((by first | exact Kd.N_base ho0 | exact Kd.N_base (Kd.S_N ho0))) hb); have n1_ := sA (Kd.R_below (upR HO209.out) hb); have n2_ := sA (Kd.N_elder' (upN HO212.out) ((by first | exact Kd.N_base ho0 | exact Kd.N_base (Kd.S_N ho0))) hb); have n3_ := sA (Kd.R_below (upR HO215.out) hb); have n4_ := sA (Kd.N_elder' (upN HO220.out) ((by first | exact Kd.N_base ho0 | exact Kd.N_base (Kd.S_N ho0))) hb); have n5_ := sA (Kd.N_elder' (upN HO224.out) ((by first | exact Kd.N_base ho0 | exact Kd.N_base (Kd.S_N ho0))) hb); have n6_ := sA (Kd.N_elder' (upN HO227.out) ((by first | exact Kd.N_base ho0 | exact Kd.N_base (Kd.S_N ho0))) hb); have n7_ := sA (Kd.R_below (upR HO230.out) hb); have n8_ := sA (Kd.R_below (upR HO234.out) hb); have n9_ := sA (Kd.N_lower (Kd.N_mono (ok' := fun k_ => some k_ ≠ (.slice Ao24 t203.length co24 : Value).ownBlock ∧ some k_ ≠ (v208 : Value).ownBlock ∧ some k_ ≠ (.slice Ao29 t210.length co29 : Value).ownBlock ∧ some k_ ≠ (.slice Ao30 y213.length co30 : Value).ownBlock ∧ some k_ ≠ (.slice Ao33 t218.length co33 : Value).ownBlock ∧ some k_ ≠ (v223 : Value).ownBlock ∧ some k_ ≠ (.slice Ao38 t225.length co38 : Value).ownBlock ∧ some k_ ≠ (.slice Ao39 y228.length co39 : Value).ownBlock ∧ some k_ ≠ (v233 : Value).ownBlock) ho0 (fun k_ hk_ => ⟨(Kd.fresh' (Kd.N_lt (upN HO205.out)) k_ hk_), (Kd.fresh' (Kd.R_lt (upR HO209.out)) k_ hk_), (Kd.fresh' (Kd.N_lt (upN HO212.out)) k_ hk_), (Kd.fresh' (Kd.R_lt (upR HO215.out)) k_ hk_), (Kd.fresh' (Kd.N_lt (upN HO220.out)) k_ hk_), (Kd.fresh' (Kd.N_lt (upN HO224.out)) k_ hk_), (Kd.fresh' (Kd.N_lt (upN HO227.out)) k_ hk_), (Kd.fresh' (Kd.R_lt (upR HO230.out)) k_ hk_), (Kd.fresh' (Kd.R_lt (upR HO234.out)) k_ hk_)⟩)) (below_size (upC HB.out))); have n10_ := sA (below_step (upC HB.out) hb); clear HO205; clear HO209; clear HO212; clear HO215; clear HO220; clear HO224; clear HO227; clear HO230; clear HO234; clear HB; have HO205 := n0_; have HO209 := n1_; have HO212 := n2_; have HO215 := n3_; have HO220 := n4_; have HO224 := n5_; have HO227 := n6_; have HO230 := n7_; have HO234 := n8_; have HO237 := n9_; have HB := n10_; clear n0_ n1_ n2_ n3_ n4_ n5_ n6_ n7_ n8_ n9_ n10_; (try clear hb); (try clear hb2); (try clear hk); (try clear hi); (try clear ho0)) | ((with_reducible refine gate_dst (N := 35) rfl ?_); (try (refine gate_guard (by rfl) ?_; dsimp only)); refine Kd.R_lit (Kd.int .i64) _ 3 ?hg (N := 35) ?hd (xs := ([5, 4, 4] : List Int)) (inner := [.int .i64 5, .int .i64 4, .int .i64 4]) (ok := fun _ => True) (okp := fun _ => True) ?hr ?hp (fun _ hk => hk) trivial (Below.refl _ _) (Nat.le_refl _) (by simp) ?_; (case hd => rfl); (case hg => rfl); (case hr => first | (go_simp; done) | (go_simp; rfl)); (case hp => exact (Reps.one (show Kd.M (Kd.int .i64) _ _ _ 5 [.int .i64 5] from rfl) (Reps.one (show Kd.M (Kd.int .i64) _ _ _ 4 [.int .i64 4] from rfl) (Reps.one (show Kd.M (Kd.int .i64) _ _ _ 4 [.int .i64 4] from rfl) (Reps.none _ _))))); intro v239 w42 ho43 hb hg_ hnew_; clear hg_ hnew_; (first | rw [← Ny238.out] at ho43 | (simp only [Int.reduceToNat] at ho43; rw [← Ny238.out] at ho43)); have n0_ := sA (Kd.N_elder' (upN HO205.out) (Kd.R_base ho43) hb); have n1_ := sA (Kd.R_elder' (upR HO209.out) (Kd.R_base ho43) hb); have n2_ := sA (Kd.N_elder' (upN HO212.out) (Kd.R_base ho43) hb); have n3_ := sA (Kd.R_elder' (upR HO215.out) (Kd.R_base ho43) hb); have n4_ := sA (Kd.N_elder' (upN HO220.out) (Kd.R_base ho43) hb); have n5_ := sA (Kd.N_elder' (upN HO224.out) (Kd.R_base ho43) hb); have n6_ := sA (Kd.N_elder' (upN HO227.out) (Kd.R_base ho43) hb); have n7_ := sA (Kd.R_elder' (upR HO230.out) (Kd.R_base ho43) hb); have n8_ := sA (Kd.R_below (upR HO234.out) hb); have n9_ := sA (Kd.N_elder' (upN HO237.out) (Kd.R_base ho43) hb); have n10_ := sA (Kd.R_lower (Kd.R_new' (Kd.R_new' (Kd.R_new' ho43 (Kd.R_lt (upR HO209.out))) (Kd.R_lt (upR HO215.out))) (Kd.R_lt (upR HO230.out))) (below_size (upC HB.out))); have n11_ := sA (below_step (upC HB.out) hb); clear HO205; clear HO209; clear HO212; clear HO215; clear HO220; clear HO224; clear HO227; clear HO230; clear HO234; clear HO237; clear HB; have HO205 := n0_; have HO209 := n1_; have HO212 := n2_; have HO215 := n3_; have HO220 := n4_; have HO224 := n5_; have HO227 := n6_; have HO230 := n7_; have HO234 := n8_; have HO237 := n9_; have HO240 := n10_; have HB := n11_; clear n0_ n1_ n2_ n3_ n4_ n5_ n6_ n7_ n8_ n9_ n10_ n11_; clear hb ho43; obtain ⟨Ao44, co44, eo44⟩ := Kd.N_slice HO237.out; subst eo44; obtain ⟨Ao45, co45, eo45⟩ := Kd.R_slice HO240.out; subst eo45) | ((with_reducible refine gate_callee (f := 20) rfl ?_); refine goesL_ (some 36) rfl rfl Try.func20 (by kernel_rfl) rfl #[.slice Ao44 t235.length co44, .slice Ao45 y238.length co45] rfl upM ?_; (with_reducible refine (quota_Settle.calls k _ _ t235 _ _ y238 t241 t242 _ ?side1 ?side2 ?side3 ?side4 A10.out).mono ?_); (case side1 => exact upX (Kd.N_reads' HO237.out).2.2); (case side2 => exact (Kd.N_reads' HO237.out).2.1); (case side3 => exact upX (Kd.R_reads' HO240.out).2.2); (case side4 => exact (Kd.R_reads' HO240.out).2.1); rintro e w46 ⟨v243, rfl, ho0, hb⟩; refine ⟨_, rfl, ?_⟩; have n0_ := sA (Kd.N_elder' (upN HO205.out) (Kd.R_base ho0) hb); have n1_ := sA (Kd.R_below (upR HO209.out) hb); have n2_ := sA (Kd.N_elder' (upN HO212.out) (Kd.R_base ho0) hb); have n3_ := sA (Kd.R_below (upR HO215.out) hb); have n4_ := sA (Kd.N_elder' (upN HO220.out) (Kd.R_base ho0) hb); have n5_ := sA (Kd.N_elder' (upN HO224.out) (Kd.R_base ho0) hb); have n6_ := sA (Kd.N_elder' (upN HO227.out) (Kd.R_base ho0) hb); have n7_ := sA (Kd.R_below (upR HO230.out) hb); have n8_ := sA (Kd.R_elder' (upR HO234.out) (Kd.R_base ho0) hb); have n9_ := sA (Kd.N_elder' (upN HO237.out) (Kd.R_base ho0) hb); have n10_ := sA (Kd.R_below (upR HO240.out) hb); have n11_ := sA (Kd.R_lower (Kd.R_new' ho0 (Kd.R_lt (upR HO234.out))) (below_size (upC HB.out))); have n12_ := sA (below_step (upC HB.out) hb); clear HO205; clear HO209; clear HO212; clear HO215; clear HO220; clear HO224; clear HO227; clear HO230; clear HO234; clear HO237; clear HO240; clear HB; have HO205 := n0_; have HO209 := n1_; have HO212 := n2_; have HO215 := n3_; have HO220 := n4_; have HO224 := n5_; have HO227 := n6_; have HO230 := n7_; have HO234 := n8_; have HO237 := n9_; have HO240 := n10_; have HO244 := n11_; have HB := n12_; clear n0_ n1_ n2_ n3_ n4_ n5_ n6_ n7_ n8_ n9_ n10_ n11_ n12_; (try clear hb); (try clear hb2); (try clear hk); (try clear hi); (try clear ho0)) | ((with_reducible refine gate_dst (N := 43) rfl ?_); (try (refine gate_guard (by rfl) ?_; dsimp only)); refine Kd.R_lit (Kd.int .i64) _ 3 ?hg (N := 43) ?hd (xs := ([(-4), 6, (-2)] : List Int)) (inner := [.int .i64 (-4), .int .i64 6, .int .i64 (-2)]) (ok := fun _ => True) (okp := fun _ => True) ?hr ?hp (fun _ hk => hk) trivial (Below.refl _ _) (Nat.le_refl _) (by simp) ?_; (case hd => rfl); (case hg => rfl); (case hr => first | (go_simp; done) | (go_simp; rfl)); (case hp => exact (Reps.one (show Kd.M (Kd.int .i64) _ _ _ (-4) [.int .i64 (-4)] from rfl) (Reps.one (show Kd.M (Kd.int .i64) _ _ _ 6 [.int .i64 6] from rfl) (Reps.one (show Kd.M (Kd.int .i64) _ _ _ (-2) [.int .i64 (-2)] from rfl) (Reps.none _ _))))); intro v246 w47 ho48 hb hg_ hnew_; clear hg_ hnew_; (first | rw [← Ny245.out] at ho48 | (simp only [Int.reduceToNat] at ho48; rw [← Ny245.out] at ho48)); have n0_ := sA (Kd.N_elder' (upN HO205.out) (Kd.R_base ho48) hb); have n1_ := sA (Kd.R_elder' (upR HO209.out) (Kd.R_base ho48) hb); have n2_ := sA (Kd.N_elder' (upN HO212.out) (Kd.R_base ho48) hb); have n3_ := sA (Kd.R_elder' (upR HO215.out) (Kd.R_base ho48) hb); have n4_ := sA (Kd.N_elder' (upN HO220.out) (Kd.R_base ho48) hb); have n5_ := sA (Kd.N_elder' (upN HO224.out) (Kd.R_base ho48) hb); have n6_ := sA (Kd.N_elder' (upN HO227.out) (Kd.R_base ho48) hb); have n7_ := sA (Kd.R_elder' (upR HO230.out) (Kd.R_base ho48) hb); have n8_ := sA (Kd.R_below (upR HO234.out) hb); have n9_ := sA (Kd.N_elder' (upN HO237.out) (Kd.R_base ho48) hb); have n10_ := sA (Kd.R_elder' (upR HO240.out) (Kd.R_base ho48) hb); have n11_ := sA (Kd.R_below (upR HO244.out) hb); have n12_ := sA (Kd.R_lower (Kd.R_new' (Kd.R_new' (Kd.R_new' (Kd.R_new' ho48 (Kd.R_lt (upR HO209.out))) (Kd.R_lt (upR HO215.out))) (Kd.R_lt (upR HO230.out))) (Kd.R_lt (upR HO240.out))) (below_size (upC HB.out))); have n13_ := sA (below_step (upC HB.out) hb); clear HO205; clear HO209; clear HO212; clear HO215; clear HO220; clear HO224; clear HO227; clear HO230; clear HO234; clear HO237; clear HO240; clear HO244; clear HB; have HO205 := n0_; have HO209 := n1_; have HO212 := n2_; have HO215 := n3_; have HO220 := n4_; have HO224 := n5_; have HO227 := n6_; have HO230 := n7_; have HO234 := n8_; have HO237 := n9_; have HO240 := n10_; have HO244 := n11_; have HO247 := n12_; have HB := n13_; clear n0_ n1_ n2_ n3_ n4_ n5_ n6_ n7_ n8_ n9_ n10_ n11_ n12_ n13_; clear hb ho48; obtain ⟨Ao49, co49, eo49⟩ := Kd.R_slice HO209.out; subst eo49; obtain ⟨Ao50, co50, eo50⟩ := Kd.R_slice HO247.out; subst eo50) | (go_at_call 29; (with_reducible refine (kinkeepref35_SameInts.calls k _ _ t206 _ _ y245 true _ ?side1 ?side2 ?side3 ?side4 A12.out).mono ?_); (case side1 => exact upX (Kd.R_reads' HO209.out).2.2); (case side2 => exact (Kd.R_reads' HO209.out).2.1); (case side3 => exact upX (Kd.R_reads' HO247.out).2.2); (case side4 => exact (Kd.R_reads' HO247.out).2.1); rintro e w' ⟨rfl, ⟨nd, rfl⟩⟩) | ((with_reducible refine gate_dst (N := 60) rfl ?_); (try (refine gate_guard (by rfl) ?_; dsimp only)); refine Kd.R_lit (Kd.int .i64) _ 3 ?hg (N := 60) ?hd (xs := ([0, 2, 2] : List Int)) (inner := [.int .i64 0, .int .i64 2, .int .i64 2]) (ok := fun _ => True) (okp := fun _ => True) ?hr ?hp (fun _ hk => hk) trivial (Below.refl _ _) (Nat.le_refl _) (by simp) ?_; (case hd => rfl); (case hg => rfl); (case hr => first | (go_simp; done) | (go_simp; rfl)); (case hp => exact (Reps.one (show Kd.M (Kd.int .i64) _ _ _ 0 [.int .i64 0] from rfl) (Reps.one (show Kd.M (Kd.int .i64) _ _ _ 2 [.int .i64 2] from rfl) (Reps.one (show Kd.M (Kd.int .i64) _ _ _ 2 [.int .i64 2] from rfl) (Reps.none _ _))))); intro v250 w51 ho52 hb hg_ hnew_; clear hg_ hnew_; (first | rw [← Ny249.out] at ho52 | (simp only [Int.reduceToNat] at ho52; rw [← Ny249.out] at ho52)); have n0_ := sA (Kd.N_elder' (upN HO205.out) (Kd.R_base ho52) hb); have n1_ := sA (Kd.R_elder' (upR HO209.out) (Kd.R_base ho52) hb); have n2_ := sA (Kd.N_elder' (upN HO212.out) (Kd.R_base ho52) hb); have n3_ := sA (Kd.R_elder' (upR HO215.out) (Kd.R_base ho52) hb); have n4_ := sA (Kd.N_elder' (upN HO220.out) (Kd.R_base ho52) hb); have n5_ := sA (Kd.N_elder' (upN HO224.out) (Kd.R_base ho52) hb); have n6_ := sA (Kd.N_elder' (upN HO227.out) (Kd.R_base ho52) hb); have n7_ := sA (Kd.R_elder' (upR HO230.out) (Kd.R_base ho52) hb); have n8_ := sA (Kd.R_below (upR HO234.out) hb); have n9_ := sA (Kd.N_elder' (upN HO237.out) (Kd.R_base ho52) hb); have n10_ := sA (Kd.R_elder' (upR HO240.out) (Kd.R_base ho52) hb); have n11_ := sA (Kd.R_below (upR HO244.out) hb); have n12_ := sA (Kd.R_elder' (upR HO247.out) (Kd.R_base ho52) hb); have n13_ := sA (Kd.R_lower (Kd.R_new' (Kd.R_new' (Kd.R_new' (Kd.R_new' (Kd.R_new' ho52 (Kd.R_lt (upR HO209.out))) (Kd.R_lt (upR HO215.out))) (Kd.R_lt (upR HO230.out))) (Kd.R_lt (upR HO240.out))) (Kd.R_lt (upR HO247.out))) (below_size (upC HB.out))); have n14_ := sA (below_step (upC HB.out) hb); clear HO205; clear HO209; clear HO212; clear HO215; clear HO220; clear HO224; clear HO227; clear HO230; clear HO234; clear HO237; clear HO240; clear HO244; clear HO247; clear HB; have HO205 := n0_; have HO209 := n1_; have HO212 := n2_; have HO215 := n3_; have HO220 := n4_; have HO224 := n5_; have HO227 := n6_; have HO230 := n7_; have HO234 := n8_; have HO237 := n9_; have HO240 := n10_; have HO244 := n11_; have HO247 := n12_; have HO251 := n13_; have HB := n14_; clear n0_ n1_ n2_ n3_ n4_ n5_ n6_ n7_ n8_ n9_ n10_ n11_ n12_ n13_ n14_; clear hb ho52) | ((with_reducible refine gate_dst (N := 61) rfl ?_); (try (refine gate_guard (by rfl) ?_; dsimp only)); refine Kd.R_lit (Kd.int .i64) _ 3 ?hg (N := 61) ?hd (xs := ([0, 0, 0] : List Int)) (inner := [.int .i64 0, .int .i64 0, .int .i64 0]) (ok := fun _ => True) (okp := fun _ => True) ?hr ?hp (fun _ hk => hk) trivial (Below.refl _ _) (Nat.le_refl _) (by simp) ?_; (case hd => rfl); (case hg => rfl); (case hr => first | (go_simp; done) | (go_simp; rfl)); (case hp => exact (Reps.one (show Kd.M (Kd.int .i64) _ _ _ 0 [.int .i64 0] from rfl) (Reps.one (show Kd.M (Kd.int .i64) _ _ _ 0 [.int .i64 0] from rfl) (Reps.one (show Kd.M (Kd.int .i64) _ _ _ 0 [.int .i64 0] from rfl) (Reps.none _ _))))); intro v253 w53 ho54 hb hg_ hnew_; clear hg_ hnew_; (first | rw [← Ny252.out] at ho54 | (simp only [Int.reduceToNat] at ho54; rw [← Ny252.out] at ho54)); have n0_ := sA (Kd.N_elder' (upN HO205.out) (Kd.R_base ho54) hb); have n1_ := sA (Kd.R_elder' (upR HO209.out) (Kd.R_base ho54) hb); have n2_ := sA (Kd.N_elder' (upN HO212.out) (Kd.R_base ho54) hb); have n3_ := sA (Kd.R_elder' (upR HO215.out) (Kd.R_base ho54) hb); have n4_ := sA (Kd.N_elder' (upN HO220.out) (Kd.R_base ho54) hb); have n5_ := sA (Kd.N_elder' (upN HO224.out) (Kd.R_base ho54) hb); have n6_ := sA (Kd.N_elder' (upN HO227.out) (Kd.R_base ho54) hb); have n7_ := sA (Kd.R_elder' (upR HO230.out) (Kd.R_base ho54) hb); have n8_ := sA (Kd.R_below (upR HO234.out) hb); have n9_ := sA (Kd.N_elder' (upN HO237.out) (Kd.R_base ho54) hb); have n10_ := sA (Kd.R_elder' (upR HO240.out) (Kd.R_base ho54) hb); have n11_ := sA (Kd.R_below (upR HO244.out) hb); have n12_ := sA (Kd.R_elder' (upR HO247.out) (Kd.R_base ho54) hb); have n13_ := sA (Kd.R_elder' (upR HO251.out) (Kd.R_base ho54) hb); have n14_ := sA (Kd.R_lower (Kd.R_new' (Kd.R_new' (Kd.R_new' (Kd.R_new' (Kd.R_new' (Kd.R_new' ho54 (Kd.R_lt (upR HO209.out))) (Kd.R_lt (upR HO215.out))) (Kd.R_lt (upR HO230.out))) (Kd.R_lt (upR HO240.out))) (Kd.R_lt (upR HO247.out))) (Kd.R_lt (upR HO251.out))) (below_size (upC HB.out))); have n15_ := sA (below_step (upC HB.out) hb); clear HO205; clear HO209; clear HO212; clear HO215; clear HO220; clear HO224; clear HO227; clear HO230; clear HO234; clear HO237; clear HO240; clear HO244; clear HO247; clear HO251; clear HB; have HO205 := n0_; have HO209 := n1_; have HO212 := n2_; have HO215 := n3_; have HO220 := n4_; have HO224 := n5_; have HO227 := n6_; have HO230 := n7_; have HO234 := n8_; have HO237 := n9_; have HO240 := n10_; have HO244 := n11_; have HO247 := n12_; have HO251 := n13_; have HO254 := n14_; have HB := n15_; clear n0_ n1_ n2_ n3_ n4_ n5_ n6_ n7_ n8_ n9_ n10_ n11_ n12_ n13_ n14_ n15_; clear hb ho54) | ((with_reducible refine gate_dst (N := 62) rfl ?_); (try (refine gate_guard (by rfl) ?_; dsimp only)); refine Kd.R_lit (Kd.int .i64) _ 3 ?hg (N := 62) ?hd (xs := ([0, 4, 0] : List Int)) (inner := [.int .i64 0, .int .i64 4, .int .i64 0]) (ok := fun _ => True) (okp := fun _ => True) ?hr ?hp (fun _ hk => hk) trivial (Below.refl _ _) (Nat.le_refl _) (by simp) ?_; (case hd => rfl); (case hg => rfl); (case hr => first | (go_simp; done) | (go_simp; rfl)); (case hp => exact (Reps.one (show Kd.M (Kd.int .i64) _ _ _ 0 [.int .i64 0] from rfl) (Reps.one (show Kd.M (Kd.int .i64) _ _ _ 4 [.int .i64 4] from rfl) (Reps.one (show Kd.M (Kd.int .i64) _ _ _ 0 [.int .i64 0] from rfl) (Reps.none _ _))))); intro v256 w55 ho56 hb hg_ hnew_; clear hg_ hnew_; (first | rw [← Ny255.out] at ho56 | (simp only [Int.reduceToNat] at ho56; rw [← Ny255.out] at ho56)); have n0_ := sA (Kd.N_elder' (upN HO205.out) (Kd.R_base ho56) hb); have n1_ := sA (Kd.R_elder' (upR HO209.out) (Kd.R_base ho56) hb); have n2_ := sA (Kd.N_elder' (upN HO212.out) (Kd.R_base ho56) hb); have n3_ := sA (Kd.R_elder' (upR HO215.out) (Kd.R_base ho56) hb); have n4_ := sA (Kd.N_elder' (upN HO220.out) (Kd.R_base ho56) hb); have n5_ := sA (Kd.N_elder' (upN HO224.out) (Kd.R_base ho56) hb); have n6_ := sA (Kd.N_elder' (upN HO227.out) (Kd.R_base ho56) hb); have n7_ := sA (Kd.R_elder' (upR HO230.out) (Kd.R_base ho56) hb); have n8_ := sA (Kd.R_below (upR HO234.out) hb); have n9_ := sA (Kd.N_elder' (upN HO237.out) (Kd.R_base ho56) hb); have n10_ := sA (Kd.R_elder' (upR HO240.out) (Kd.R_base ho56) hb); have n11_ := sA (Kd.R_below (upR HO244.out) hb); have n12_ := sA (Kd.R_elder' (upR HO247.out) (Kd.R_base ho56) hb); have n13_ := sA (Kd.R_elder' (upR HO251.out) (Kd.R_base ho56) hb); have n14_ := sA (Kd.R_elder' (upR HO254.out) (Kd.R_base ho56) hb); have n15_ := sA (Kd.R_lower (Kd.R_new' (Kd.R_new' (Kd.R_new' (Kd.R_new' (Kd.R_new' (Kd.R_new' (Kd.R_new' ho56 (Kd.R_lt (upR HO209.out))) (Kd.R_lt (upR HO215.out))) (Kd.R_lt (upR HO230.out))) (Kd.R_lt (upR HO240.out))) (Kd.R_lt (upR HO247.out))) (Kd.R_lt (upR HO251.out))) (Kd.R_lt (upR HO254.out))) (below_size (upC HB.out))); have n16_ := sA (below_step (upC HB.out) hb); clear HO205; clear HO209; clear HO212; clear HO215; clear HO220; clear HO224; clear HO227; clear HO230; clear HO234; clear HO237; clear HO240; clear HO244; clear HO247; clear HO251; clear HO254; clear HB; have HO205 := n0_; have HO209 := n1_; have HO212 := n2_; have HO215 := n3_; have HO220 := n4_; have HO224 := n5_; have HO227 := n6_; have HO230 := n7_; have HO234 := n8_; have HO237 := n9_; have HO240 := n10_; have HO244 := n11_; have HO247 := n12_; have HO251 := n13_; have HO254 := n14_; have HO257 := n15_; have HB := n16_; clear n0_ n1_ n2_ n3_ n4_ n5_ n6_ n7_ n8_ n9_ n10_ n11_ n12_ n13_ n14_ n15_ n16_; clear hb ho56; obtain ⟨Ao57, co57, eo57⟩ := Kd.R_slice HO251.out; subst eo57; obtain ⟨Ao58, co58, eo58⟩ := Kd.R_slice HO254.out; subst eo58; obtain ⟨Ao59, co59, eo59⟩ := Kd.R_slice HO257.out; subst eo59) | ((with_reducible refine gate_dst (N := 63) rfl ?_); (try (refine gate_guard (by rfl) ?_; dsimp only)); refine Kd.N_lit (Kd.slice 3 (Kd.int .i64)) _ 31 ?hg (N' := 63) ?hd (xs := ([y249, y252, y255] : List (List Int))) (inner := [.slice Ao57 y249.length co57, .slice Ao58 y252.length co58, .slice Ao59 y255.length co59]) (ok := (fun k_ => some k_ ≠ (.slice Ao24 t203.length co24 : Value).ownBlock ∧ some k_ ≠ (.slice Ao49 t206.length co49 : Value).ownBlock ∧ some k_ ≠ (.slice Ao29 t210.length co29 : Value).ownBlock ∧ some k_ ≠ (.slice Ao30 y213.length co30 : Value).ownBlock ∧ some k_ ≠ (.slice Ao33 t218.length co33 : Value).ownBlock ∧ some k_ ≠ (v223 : Value).ownBlock ∧ some k_ ≠ (.slice Ao38 t225.length co38 : Value).ownBlock ∧ some k_ ≠ (.slice Ao39 y228.length co39 : Value).ownBlock ∧ some k_ ≠ (v233 : Value).ownBlock ∧ some k_ ≠ (.slice Ao44 t235.length co44 : Value).ownBlock ∧ some k_ ≠ (.slice Ao45 y238.length co45 : Value).ownBlock ∧ some k_ ≠ (v243 : Value).ownBlock ∧ some k_ ≠ (.slice Ao50 y245.length co50 : Value).ownBlock)) (okp := (fun k_ => some k_ ≠ (.slice Ao24 t203.length co24 : Value).ownBlock ∧ some k_ ≠ (.slice Ao49 t206.length co49 : Value).ownBlock ∧ some k_ ≠ (.slice Ao29 t210.length co29 : Value).ownBlock ∧ some k_ ≠ (.slice Ao30 y213.length co30 : Value).ownBlock ∧ some k_ ≠ (.slice Ao33 t218.length co33 : Value).ownBlock ∧ some k_ ≠ (v223 : Value).ownBlock ∧ some k_ ≠ (.slice Ao38 t225.length co38 : Value).ownBlock ∧ some k_ ≠ (.slice Ao39 y228.length co39 : Value).ownBlock ∧ some k_ ≠ (v233 : Value).ownBlock ∧ some k_ ≠ (.slice Ao44 t235.length co44 : Value).ownBlock ∧ some k_ ≠ (.slice Ao45 y238.length co45 : Value).ownBlock ∧ some k_ ≠ (v243 : Value).ownBlock ∧ some k_ ≠ (.slice Ao50 y245.length co50 : Value).ownBlock)) ?hr ?hp (fun _ hk => hk) ((show ∀ k_, w55.heap.size ≤ k_ → (fun k_ => some k_ ≠ (.slice Ao24 t203.length co24 : Value).ownBlock ∧ some k_ ≠ (.slice Ao49 t206.length co49 : Value).ownBlock ∧ some k_ ≠ (.slice Ao29 t210.length co29 : Value).ownBlock ∧ some k_ ≠ (.slice Ao30 y213.length co30 : Value).ownBlock ∧ some k_ ≠ (.slice Ao33 t218.length co33 : Value).ownBlock ∧ some k_ ≠ (v223 : Value).ownBlock ∧ some k_ ≠ (.slice Ao38 t225.length co38 : Value).ownBlock ∧ some k_ ≠ (.slice Ao39 y228.length co39 : Value).ownBlock ∧ some k_ ≠ (v233 : Value).ownBlock ∧ some k_ ≠ (.slice Ao44 t235.length co44 : Value).ownBlock ∧ some k_ ≠ (.slice Ao45 y238.length co45 : Value).ownBlock ∧ some k_ ≠ (v243 : Value).ownBlock ∧ some k_ ≠ (.slice Ao50 y245.length co50 : Value).ownBlock) k_ from fun k_ hk => ⟨Kd.fresh' (Kd.N_lt (upN HO205.out)) k_ hk, Kd.fresh' (Kd.R_lt (upR HO209.out)) k_ hk, Kd.fresh' (Kd.N_lt (upN HO212.out)) k_ hk, Kd.fresh' (Kd.R_lt (upR HO215.out)) k_ hk, Kd.fresh' (Kd.N_lt (upN HO220.out)) k_ hk, Kd.fresh' (Kd.N_lt (upN HO224.out)) k_ hk, Kd.fresh' (Kd.N_lt (upN HO227.out)) k_ hk, Kd.fresh' (Kd.R_lt (upR HO230.out)) k_ hk, Kd.fresh' (Kd.R_lt (upR HO234.out)) k_ hk, Kd.fresh' (Kd.N_lt (upN HO237.out)) k_ hk, Kd.fresh' (Kd.R_lt (upR HO240.out)) k_ hk, Kd.fresh' (Kd.R_lt (upR HO244.out)) k_ hk, Kd.fresh' (Kd.R_lt (upR HO247.out)) k_ hk⟩) _ (Nat.le_refl _)) (Below.refl _ _) (Nat.le_refl _) (by simp) ?_; (case hd => rfl); (case hg => rfl); (case hr => first | (go_simp; done) | (go_simp; rfl)); (case hp => exact (Reps.one (show Kd.FK (Kd.slice 3 (Kd.int .i64)) _ _ y249 [.slice Ao57 y249.length co57] from (Kd.FK_slice_mk (Kd.R_reads' (Kd.R_mono (ok' := (fun k_ => some k_ ≠ (.slice Ao24 t203.length co24 : Value).ownBlock ∧ some k_ ≠ (.slice Ao49 t206.length co49 : Value).ownBlock ∧ some k_ ≠ (.slice Ao29 t210.length co29 : Value).ownBlock ∧ some k_ ≠ (.slice Ao30 y213.length co30 : Value).ownBlock ∧ some k_ ≠ (.slice Ao33 t218.length co33 : Value).ownBlock ∧ some k_ ≠ (v223 : Value).ownBlock ∧ some k_ ≠ (.slice Ao38 t225.length co38 : Value).ownBlock ∧ some k_ ≠ (.slice Ao39 y228.length co39 : Value).ownBlock ∧ some k_ ≠ (v233 : Value).ownBlock ∧ some k_ ≠ (.slice Ao44 t235.length co44 : Value).ownBlock ∧ some k_ ≠ (.slice Ao45 y238.length co45 : Value).ownBlock ∧ some k_ ≠ (v243 : Value).ownBlock ∧ some k_ ≠ (.slice Ao50 y245.length co50 : Value).ownBlock)) (Kd.R_apart' (Kd.R_apart' (Kd.R_apart' (Kd.R_apart' (Kd.R_apart' (Kd.R_apart' (Kd.R_apart' (Kd.R_apart' (HO251.out) (Kd.N_typed HO205.out) (by decide)) (Kd.N_typed HO212.out) (by decide)) (Kd.N_typed HO220.out) (by decide)) (Kd.N_typed HO224.out) (by decide)) (Kd.N_typed HO227.out) (by decide)) (Kd.R_typed HO234.out) (by decide)) (Kd.N_typed HO237.out) (by decide)) (Kd.R_typed HO244.out) (by decide)) (fun k_ hk => ⟨hk.1.1.1.1.1.1.1.2, ⟨hk.1.1.1.1.1.1.1.1.1.1.1.1.1.1.2, ⟨hk.1.1.1.1.1.1.2, ⟨hk.1.1.1.1.1.1.1.1.1.1.1.1.1.2, ⟨hk.1.1.1.1.1.2, ⟨hk.1.1.1.1.2, ⟨hk.1.1.1.2, ⟨hk.1.1.1.1.1.1.1.1.1.1.1.1.2, ⟨hk.1.1.2, ⟨hk.1.2, ⟨hk.1.1.1.1.1.1.1.1.1.1.1.2, ⟨hk.2, hk.1.1.1.1.1.1.1.1.1.1.2⟩⟩⟩⟩⟩⟩⟩⟩⟩⟩⟩⟩))).2.1 (Kd.R_F (Kd.R_mono (ok' := (fun k_ => some k_ ≠ (.slice Ao24 t203.length co24 : Value).ownBlock ∧ some k_ ≠ (.slice Ao49 t206.length co49 : Value).ownBlock ∧ some k_ ≠ (.slice Ao29 t210.length co29 : Value).ownBlock ∧ some k_ ≠ (.slice Ao30 y213.length co30 : Value).ownBlock ∧ some k_ ≠ (.slice Ao33 t218.length co33 : Value).ownBlock ∧ some k_ ≠ (v223 : Value).ownBlock ∧ some k_ ≠ (.slice Ao38 t225.length co38 : Value).ownBlock ∧ some k_ ≠ (.slice Ao39 y228.length co39 : Value).ownBlock ∧ some k_ ≠ (v233 : Value).ownBlock ∧ some k_ ≠ (.slice Ao44 t235.length co44 : Value).ownBlock ∧ some k_ ≠ (.slice Ao45 y238.length co45 : Value).ownBlock ∧ some k_ ≠ (v243 : Value).ownBlock ∧ some k_ ≠ (.slice Ao50 y245.length co50 : Value).ownBlock)) (Kd.R_apart' (Kd.R_apart' (Kd.R_apart' (Kd.R_apart' (Kd.R_apart' (Kd.R_apart' (Kd.R_apart' (Kd.R_apart' (HO251.out) (Kd.N_typed HO205.out) (by decide)) (Kd.N_typed HO212.out) (by decide)) (Kd.N_typed HO220.out) (by decide)) (Kd.N_typed HO224.out) (by decide)) (Kd.N_typed HO227.out) (by decide)) (Kd.R_typed HO234.out) (by decide)) (Kd.N_typed HO237.out) (by decide)) (Kd.R_typed HO244.out) (by decide)) (fun k_ hk => ⟨hk.1.1.1.1.1.1.1.2, ⟨hk.1.1.1.1.1.1.1.1.1.1.1.1.1.1.2, ⟨hk.1.1.1.1.1.1.2, ⟨hk.1.1.1.1.1.1.1.1.1.1.1.1.1.2, ⟨hk.1.1.1.1.1.2, ⟨hk.1.1.1.1.2, ⟨hk.1.1.1.2, ⟨hk.1.1.1.1.1.1.1.1.1.1.1.1.2, ⟨hk.1.1.2, ⟨hk.1.2, ⟨hk.1.1.1.1.1.1.1.1.1.1.1.2, ⟨hk.2, hk.1.1.1.1.1.1.1.1.1.1.2⟩⟩⟩⟩⟩⟩⟩⟩⟩⟩⟩⟩))))) (Reps.one (show Kd.FK (Kd.slice 3 (Kd.int .i64)) _ _ y252 [.slice Ao58 y252.length co58] from (Kd.FK_slice_mk (Kd.R_reads' (Kd.R_mono (ok' := (fun k_ => some k_ ≠ (.slice Ao24 t203.length co24 : Value).ownBlock ∧ some k_ ≠ (.slice Ao49 t206.length co49 : Value).ownBlock ∧ some k_ ≠ (.slice Ao29 t210.length co29 : Value).ownBlock ∧ some k_ ≠ (.slice Ao30 y213.length co30 : Value).ownBlock ∧ some k_ ≠ (.slice Ao33 t218.length co33 : Value).ownBlock ∧ some k_ ≠ (v223 : Value).ownBlock ∧ some k_ ≠ (.slice Ao38 t225.length co38 : Value).ownBlock ∧ some k_ ≠ (.slice Ao39 y228.length co39 : Value).ownBlock ∧ some k_ ≠ (v233 : Value).ownBlock ∧ some k_ ≠ (.slice Ao44 t235.length co44 : Value).ownBlock ∧ some k_ ≠ (.slice Ao45 y238.length co45 : Value).ownBlock ∧ some k_ ≠ (v243 : Value).ownBlock ∧ some k_ ≠ (.slice Ao50 y245.length co50 : Value).ownBlock)) (Kd.R_apart' (Kd.R_apart' (Kd.R_apart' (Kd.R_apart' (Kd.R_apart' (Kd.R_apart' (Kd.R_apart' (Kd.R_apart' (HO254.out) (Kd.N_typed HO205.out) (by decide)) (Kd.N_typed HO212.out) (by decide)) (Kd.N_typed HO220.out) (by decide)) (Kd.N_typed HO224.out) (by decide)) (Kd.N_typed HO227.out) (by decide)) (Kd.R_typed HO234.out) (by decide)) (Kd.N_typed HO237.out) (by decide)) (Kd.R_typed HO244.out) (by decide)) (fun k_ hk => ⟨hk.1.1.1.1.1.1.1.2, ⟨hk.1.1.1.1.1.1.1.1.1.1.1.1.1.1.2, ⟨hk.1.1.1.1.1.1.2, ⟨hk.1.1.1.1.1.1.1.1.1.1.1.1.1.2, ⟨hk.1.1.1.1.1.2, ⟨hk.1.1.1.1.2, ⟨hk.1.1.1.2, ⟨hk.1.1.1.1.1.1.1.1.1.1.1.1.2, ⟨hk.1.1.2, ⟨hk.1.2, ⟨hk.1.1.1.1.1.1.1.1.1.1.1.2, ⟨hk.2, hk.1.1.1.1.1.1.1.1.1.1.2⟩⟩⟩⟩⟩⟩⟩⟩⟩⟩⟩⟩))).2.1 (Kd.R_F (Kd.R_mono (ok' := (fun k_ => some k_ ≠ (.slice Ao24 t203.length co24 : Value).ownBlock ∧ some k_ ≠ (.slice Ao49 t206.length co49 : Value).ownBlock ∧ some k_ ≠ (.slice Ao29 t210.length co29 : Value).ownBlock ∧ some k_ ≠ (.slice Ao30 y213.length co30 : Value).ownBlock ∧ some k_ ≠ (.slice Ao33 t218.length co33 : Value).ownBlock ∧ some k_ ≠ (v223 : Value).ownBlock ∧ some k_ ≠ (.slice Ao38 t225.length co38 : Value).ownBlock ∧ some k_ ≠ (.slice Ao39 y228.length co39 : Value).ownBlock ∧ some k_ ≠ (v233 : Value).ownBlock ∧ some k_ ≠ (.slice Ao44 t235.length co44 : Value).ownBlock ∧ some k_ ≠ (.slice Ao45 y238.length co45 : Value).ownBlock ∧ some k_ ≠ (v243 : Value).ownBlock ∧ some k_ ≠ (.slice Ao50 y245.length co50 : Value).ownBlock)) (Kd.R_apart' (Kd.R_apart' (Kd.R_apart' (Kd.R_apart' (Kd.R_apart' (Kd.R_apart' (Kd.R_apart' (Kd.R_apart' (HO254.out) (Kd.N_typed HO205.out) (by decide)) (Kd.N_typed HO212.out) (by decide)) (Kd.N_typed HO220.out) (by decide)) (Kd.N_typed HO224.out) (by decide)) (Kd.N_typed HO227.out) (by decide)) (Kd.R_typed HO234.out) (by decide)) (Kd.N_typed HO237.out) (by decide)) (Kd.R_typed HO244.out) (by decide)) (fun k_ hk => ⟨hk.1.1.1.1.1.1.1.2, ⟨hk.1.1.1.1.1.1.1.1.1.1.1.1.1.1.2, ⟨hk.1.1.1.1.1.1.2, ⟨hk.1.1.1.1.1.1.1.1.1.1.1.1.1.2, ⟨hk.1.1.1.1.1.2, ⟨hk.1.1.1.1.2, ⟨hk.1.1.1.2, ⟨hk.1.1.1.1.1.1.1.1.1.1.1.1.2, ⟨hk.1.1.2, ⟨hk.1.2, ⟨hk.1.1.1.1.1.1.1.1.1.1.1.2, ⟨hk.2, hk.1.1.1.1.1.1.1.1.1.1.2⟩⟩⟩⟩⟩⟩⟩⟩⟩⟩⟩⟩))))) (Reps.one (show Kd.FK (Kd.slice 3 (Kd.int .i64)) _ _ y255 [.slice Ao59 y255.length co59] from (Kd.FK_slice_mk (Kd.R_reads' (Kd.R_mono (ok' := (fun k_ => some k_ ≠ (.slice Ao24 t203.length co24 : Value).ownBlock ∧ some k_ ≠ (.slice Ao49 t206.length co49 : Value).ownBlock ∧ some k_ ≠ (.slice Ao29 t210.length co29 : Value).ownBlock ∧ some k_ ≠ (.slice Ao30 y213.length co30 : Value).ownBlock ∧ some k_ ≠ (.slice Ao33 t218.length co33 : Value).ownBlock ∧ some k_ ≠ (v223 : Value).ownBlock ∧ some k_ ≠ (.slice Ao38 t225.length co38 : Value).ownBlock ∧ some k_ ≠ (.slice Ao39 y228.length co39 : Value).ownBlock ∧ some k_ ≠ (v233 : Value).ownBlock ∧ some k_ ≠ (.slice Ao44 t235.length co44 : Value).ownBlock ∧ some k_ ≠ (.slice Ao45 y238.length co45 : Value).ownBlock ∧ some k_ ≠ (v243 : Value).ownBlock ∧ some k_ ≠ (.slice Ao50 y245.length co50 : Value).ownBlock)) (Kd.R_apart' (Kd.R_apart' (Kd.R_apart' (Kd.R_apart' (Kd.R_apart' (Kd.R_apart' (Kd.R_apart' (Kd.R_apart' (HO257.out) (Kd.N_typed HO205.out) (by decide)) (Kd.N_typed HO212.out) (by decide)) (Kd.N_typed HO220.out) (by decide)) (Kd.N_typed HO224.out) (by decide)) (Kd.N_typed HO227.out) (by decide)) (Kd.R_typed HO234.out) (by decide)) (Kd.N_typed HO237.out) (by decide)) (Kd.R_typed HO244.out) (by decide)) (fun k_ hk => ⟨hk.1.1.1.1.1.1.1.2, ⟨hk.1.1.1.1.1.1.1.1.1.1.1.1.1.1.2, ⟨hk.1.1.1.1.1.1.2, ⟨hk.1.1.1.1.1.1.1.1.1.1.1.1.1.2, ⟨hk.1.1.1.1.1.2, ⟨hk.1.1.1.1.2, ⟨hk.1.1.1.2, ⟨hk.1.1.1.1.1.1.1.1.1.1.1.1.2, ⟨hk.1.1.2, ⟨hk.1.2, ⟨hk.1.1.1.1.1.1.1.1.1.1.1.2, ⟨hk.2, hk.1.1.1.1.1.1.1.1.1.1.2⟩⟩⟩⟩⟩⟩⟩⟩⟩⟩⟩⟩))).2.1 (Kd.R_F (Kd.R_mono (ok' := (fun k_ => some k_ ≠ (.slice Ao24 t203.length co24 : Value).ownBlock ∧ some k_ ≠ (.slice Ao49 t206.length co49 : Value).ownBlock ∧ some k_ ≠ (.slice Ao29 t210.length co29 : Value).ownBlock ∧ some k_ ≠ (.slice Ao30 y213.length co30 : Value).ownBlock ∧ some k_ ≠ (.slice Ao33 t218.length co33 : Value).ownBlock ∧ some k_ ≠ (v223 : Value).ownBlock ∧ some k_ ≠ (.slice Ao38 t225.length co38 : Value).ownBlock ∧ some k_ ≠ (.slice Ao39 y228.length co39 : Value).ownBlock ∧ some k_ ≠ (v233 : Value).ownBlock ∧ some k_ ≠ (.slice Ao44 t235.length co44 : Value).ownBlock ∧ some k_ ≠ (.slice Ao45 y238.length co45 : Value).ownBlock ∧ some k_ ≠ (v243 : Value).ownBlock ∧ some k_ ≠ (.slice Ao50 y245.length co50 : Value).ownBlock)) (Kd.R_apart' (Kd.R_apart' (Kd.R_apart' (Kd.R_apart' (Kd.R_apart' (Kd.R_apart' (Kd.R_apart' (Kd.R_apart' (HO257.out) (Kd.N_typed HO205.out) (by decide)) (Kd.N_typed HO212.out) (by decide)) (Kd.N_typed HO220.out) (by decide)) (Kd.N_typed HO224.out) (by decide)) (Kd.N_typed HO227.out) (by decide)) (Kd.R_typed HO234.out) (by decide)) (Kd.N_typed HO237.out) (by decide)) (Kd.R_typed HO244.out) (by decide)) (fun k_ hk => ⟨hk.1.1.1.1.1.1.1.2, ⟨hk.1.1.1.1.1.1.1.1.1.1.1.1.1.1.2, ⟨hk.1.1.1.1.1.1.2, ⟨hk.1.1.1.1.1.1.1.1.1.1.1.1.1.2, ⟨hk.1.1.1.1.1.2, ⟨hk.1.1.1.1.2, ⟨hk.1.1.1.2, ⟨hk.1.1.1.1.1.1.1.1.1.1.1.1.2, ⟨hk.1.1.2, ⟨hk.1.2, ⟨hk.1.1.1.1.1.1.1.1.1.1.1.2, ⟨hk.2, hk.1.1.1.1.1.1.1.1.1.1.2⟩⟩⟩⟩⟩⟩⟩⟩⟩⟩⟩⟩))))) (Reps.none _ _))))); intro v259 w60 ho61 hb hg_ hnew_; clear hg_ hnew_; (first | rw [← Ny258.out] at ho61 | (simp only [Int.reduceToNat] at ho61; rw [← Ny258.out] at ho61)); have n0_ := sA (Kd.N_elder' (upN HO205.out) (Kd.N_base ho61) hb); have n1_ := sA (Kd.R_below (upR HO209.out) hb); have n2_ := sA (Kd.N_elder' (upN HO212.out) (Kd.N_base ho61) hb); have n3_ := sA (Kd.R_below (upR HO215.out) hb); have n4_ := sA (Kd.N_elder' (upN HO220.out) (Kd.N_base ho61) hb); have n5_ := sA (Kd.N_elder' (upN HO224.out) (Kd.N_base ho61) hb); have n6_ := sA (Kd.N_elder' (upN HO227.out) (Kd.N_base ho61) hb); have n7_ := sA (Kd.R_below (upR HO230.out) hb); have n8_ := sA (Kd.R_below (upR HO234.out) hb); have n9_ := sA (Kd.N_elder' (upN HO237.out) (Kd.N_base ho61) hb); have n10_ := sA (Kd.R_below (upR HO240.out) hb); have n11_ := sA (Kd.R_below (upR HO244.out) hb); have n12_ := sA (Kd.R_below (upR HO247.out) hb); have n13_ := sA (Kd.N_lower ho61 (below_size (upC HB.out))); have n14_ := sA (below_step (upC HB.out) hb); clear HO205; clear HO209; clear HO212; clear HO215; clear HO220; clear HO224; clear HO227; clear HO230; clear HO234; clear HO237; clear HO240; clear HO244; clear HO247; clear HB; clear HO251; clear HO254; clear HO257; have HO205 := n0_; have HO209 := n1_; have HO212 := n2_; have HO215 := n3_; have HO220 := n4_; have HO224 := n5_; have HO227 := n6_; have HO230 := n7_; have HO234 := n8_; have HO237 := n9_; have HO240 := n10_; have HO244 := n11_; have HO247 := n12_; have HO260 := n13_; have HB := n14_; clear n0_ n1_ n2_ n3_ n4_ n5_ n6_ n7_ n8_ n9_ n10_ n11_ n12_ n13_ n14_; clear hb ho61; obtain ⟨Ao62, co62, eo62⟩ := Kd.N_slice HO224.out; subst eo62; obtain ⟨Ao63, co63, eo63⟩ := Kd.N_slice HO260.out; subst eo63) | (go_at_call 17; (with_reducible refine (kinkeepref35_Same.calls k _ _ t221 _ _ y258 true _ ?side1 ?side2 ?side3 ?side4 A17.out).mono ?_); (case side1 => exact upX (Kd.N_reads' HO224.out).2.2); (case side2 => exact (Kd.N_reads' HO224.out).2.1); (case side3 => exact upX (Kd.N_reads' HO260.out).2.2); (case side4 => exact (Kd.N_reads' HO260.out).2.1); rintro e w' ⟨rfl, ⟨nd, rfl⟩⟩; obtain ⟨Ao64, co64, eo64⟩ := Kd.R_slice HO234.out; subst eo64; have p262 : 0 ≤ (0 : Int) := (by omega); have q262 : 0 < (t231.length : Int) := upA; obtain ⟨ad262, e262, hx262_0, hx262_1, hx262_2, hx262_3⟩ := at_T29 (Kd.R_reads' HO234.out).2.2 0 p262 q262; cases e262; have qi262 : (0 < t231.length) = True := eq_true (by omega); (try rw [show ((0 : Int)).toNat = 0 from rfl] at hx262_0); (try rw [show 0 * 4 = 0 from rfl] at hx262_0); (try rw [Addr.add_zero'] at hx262_0); (try rw [show ((0 : Int)).toNat = 0 from rfl] at hx262_1); (try rw [show 0 * 4 = 0 from rfl] at hx262_1); (try rw [Addr.add_zero'] at hx262_1); (try rw [show ((0 : Int)).toNat = 0 from rfl] at hx262_2); (try rw [show 0 * 4 = 0 from rfl] at hx262_2); (try rw [Addr.add_zero'] at hx262_2); (try rw [show ((0 : Int)).toNat = 0 from rfl] at hx262_3); (try rw [show 0 * 4 = 0 from rfl] at hx262_3); (try rw [Addr.add_zero'] at hx262_3); replace p262 := eq_true p262; replace q262 := eq_true q262))
 go_ret
 exact ⟨by first | rfl | (simp [c30b0]) | (simp [*, errW_none, errW_some] <;> rfl), upC HB.out⟩
end Go.Proofs.Ytdljbmgknhbceaa.Q
end
