import Derived.Test.YtdljbmgknhbceaaMi
import Derived.Test.YtdljbmgknhbceaaQv
import Derived.Test.YtdljbmgknhbceaaQr
import Derived.Test.YtdljbmgknhbceaaQx25
import Derived.IntWalk
namespace Go.Proofs.Ytdljbmgknhbceaa.A
open Go.RowKit Go.Proofs.YtdljbmgknhbceaaW.PrintWords Go.Proofs.YtdljbmgknhbceaaW.PrintLast Go.Proofs.YtdljbmgknhbceaaW.PrintMore Go.Proofs.Ytdljbmgknhbceaa.Q
set_option linter.unusedVariables false
set_option linter.unusedSimpArgs false

set_option maxHeartbeats 4000000 in
set_option maxRecDepth 100000 in
theorem Fits_any (A0 : Option Addr) (c0 : Nat) (t : List (List Int)) (A1 : Option Addr) (c1 : Nat) (q : List Int) (w : World) (hr0 : Kd.C KT w A0 t.length t) (hc0 : t.length ≤ c0) (hr1 : Kd.C (Kd.int .i64) w A1 q.length q) (hc1 : q.length ≤ c1) :
    Calls Try.prog 5 #[.slice A0 t.length c0, .slice A1 q.length c1] w fun e w' => e = .returned (.bool true) ∧ Below w.heap.size w w' := by
  have HR0 := Aside0.mk hr0
  have HR1 := Aside0.mk hr1
  have HC0 := Aside0.mk hc0
  have HC1 := Aside0.mk hc1
  obtain ⟨kl, hkl⟩ := P.low_f t 12 1000 hr0.2.1
  have HKL := Aside0.mk hkl
  clear hr0 hr1 hc0 hc1 hkl
  have HBk : ∀ {w w1 : World} (m : Nat), Below w.heap.size w w1 → Below w.heap.size w (w1.drewN m) := fun m h => pw_below_drewN h m
  cases hlow : (P.lowB t 1000 && decide ((t.length : Int) ≤ 12)) with
  | false =>
    rw [hlow] at HKL
    clear hlow
    go_enter Try.func5, Try.ntmps5
    go_wp2_with (first | (go_at_call 14; refine (kinkeeplaw35_awake.calls 0 true _ rfl).mono ?_; rintro e w1 ⟨rfl, hb⟩; have HB := Aside0.mk hb; clear hb) | (go_at_call 19; refine (kinkeeplaw35_low.calls kl _ _ t 12 1000 false _ (by first | exact Kd.C_below HR0.out HB.out | exact Kd.C_drewN (Kd.C_below HR0.out HB.out) _) HC0.out HKL.out).mono ?_; rintro e w2 ⟨rfl, ⟨m2, rfl⟩⟩))
    go_ret
    exact ⟨rfl, by repeat (first | (with_reducible first | exact HB.out | apply below_alloc | apply pw_below_drewN | apply below_drew1) | exact HB.out)⟩
  | true =>
    rw [hlow] at HKL
    rw [Bool.and_eq_true, decide_eq_true_eq] at hlow
    have hn12 : t.length ≤ 12 := by omega
    by_cases hq : (q.length : Int) > 20
    · have hqb : decide ((q.length : Int) > 20) = true := decide_eq_true hq
      have hqb' : decide (20 < (q.length : Int)) = true := decide_eq_true (by omega)
      clear hlow hq
      go_enter Try.func5, Try.ntmps5
      go_wp2_with (first | (go_at_call 14; refine (kinkeeplaw35_awake.calls 0 true _ rfl).mono ?_; rintro e w1 ⟨rfl, hb⟩; have HB := Aside0.mk hb; clear hb) | (go_at_call 19; refine (kinkeeplaw35_low.calls kl _ _ t 12 1000 true _ (by first | exact Kd.C_below HR0.out HB.out | exact Kd.C_drewN (Kd.C_below HR0.out HB.out) _) HC0.out HKL.out).mono ?_; rintro e w2 ⟨rfl, ⟨m2, rfl⟩⟩))
      go_ret
      exact ⟨rfl, by repeat (first | (with_reducible first | exact HB.out | apply below_alloc | apply pw_below_drewN | apply below_drew1) | exact HB.out)⟩
    · have hqb : decide ((q.length : Int) > 20) = false := decide_eq_false hq
      have hqb' : decide (20 < (q.length : Int)) = false := decide_eq_false (by omega)
      have hq20 : q.length ≤ 20 := by omega
      clear hq
      obtain ⟨l, hl⟩ : ∃ l, l = (settleOut t q).1 := ⟨_, rfl⟩
      obtain ⟨e0, he0⟩ : ∃ e, e = (settleOut t q).2 := ⟨_, rfl⟩
      have HSO : Aside0 (quota_Settle.f 0 t q = some (l, e0)) := ⟨by rw [quota_Settle.f, hl, he0]⟩
      by_cases hz : e0 = 0
      · subst hz
        have hs : (settleOut t q).2 = 0 := he0.symm
        have hf : fitsT t q = true := by
          cases c : fitsT t q with
          | true => rfl
          | false => rw [settleOut, c, if_neg (by simp)] at hs; cases hs
        have hv := P.fit_valid hf
        obtain ⟨c, f1, f2, f3, f4, f5⟩ := P.fits_facts hf hs (fun i j hi hj => P.lowB_at hlow.1 i j hi (by rw [P.sq_of hv i hi]; exact hj))
        rw [← hl] at f1 f5
        have hql : q.length = t.length := by
          rw [fitsT, Bool.and_eq_true, Bool.and_eq_true, decide_eq_true_eq] at hf
          exact hf.2.1
        have HAP : Aside0 (quota_Apply.f 0 t l = some (c, 0)) := ⟨by rw [quota_Apply.f, f1]⟩
        obtain ⟨a, ha⟩ : ∃ a, a = heldT t := ⟨_, rfl⟩
        obtain ⟨b, hb⟩ : ∃ b, b = heldT c := ⟨_, rfl⟩
        have HH1 : Aside0 (quota_Held.f 0 t = some (a, 0)) := ⟨by rw [quota_Held.f, heldOut, if_pos hv, ha]⟩
        have HH2 : Aside0 (quota_Held.f 0 c = some (b, 0)) := ⟨by rw [quota_Held.f, heldOut, if_pos f2, hb]⟩
        have la : a.length = q.length := by rw [ha, hql]; simp [heldT]
        have lb : b.length = q.length := by rw [hb, hql, ← f3]; simp [heldT]
        rw [← ha, ← hb] at f4
        rw [← hql] at f4
        have F4 := Aside0.mk f4
        have F5 := Aside0.mk f5
        have la1 : ((a.length : Int) != (q.length : Int)) = false := by rw [la]; simp
        have lb1 : ((b.length : Int) != (q.length : Int)) = false := by rw [lb]; simp
        have la2 : ((a.length : Int) == (q.length : Int)) = true := by rw [la]; simp
        have lb2 : ((b.length : Int) == (q.length : Int)) = true := by rw [lb]; simp
        have LA := Aside0.mk la
        have LB := Aside0.mk lb
        clear hl he0 hlow hs hf hv f1 f2 f3 f4 f5 hql ha hb la lb
        go_enter Try.func5, Try.ntmps5
        go_wp2_with (first
          | (go_at_call 14; refine (kinkeeplaw35_awake.calls 0 true _ rfl).mono ?_; rintro e w1 ⟨rfl, hb⟩; have HB := Aside0.mk hb; clear hb) | (go_at_call 19; refine (kinkeeplaw35_low.calls kl _ _ t 12 1000 true _ (by first | exact Kd.C_below HR0.out HB.out | exact Kd.C_drewN (Kd.C_below HR0.out HB.out) _) HC0.out HKL.out).mono ?_; rintro e w2 ⟨rfl, ⟨m2, rfl⟩⟩) | (go_at_call 20; refine (quota_Settle.calls 0 _ _ t _ _ q l _ _ (Kd.C_below HR0.out (by first | exact HB.out | exact pw_below_drewN HB.out _)) HC0.out (Kd.C_below HR1.out (by first | exact HB.out | exact pw_below_drewN HB.out _)) HC1.out HSO.out).mono ?_; rintro e w3 ⟨v3, rfl, hR, hb⟩; have HB3 := Aside0.mk (below_step (by first | exact HB.out | exact pw_below_drewN HB.out _) hb); obtain ⟨A3, c3, e3⟩ := Kd.R_slice hR; subst e3; have HL3 := Aside0.mk (Kd.R_reads' hR).2.2; have HLC := Aside0.mk (Kd.R_reads' hR).2.1; clear hR hb)
          | (go_at_call 15; refine (quota_Apply.calls 0 _ _ t _ _ l c 0 _ (Kd.C_below HR0.out HB3.out) HC0.out HL3.out HLC.out HAP.out).mono ?_; rintro e w4 ⟨v4, rfl, hS, hb⟩; have HB4 := Aside0.mk (below_step HB3.out hb); have HL4 := Aside0.mk (Kd.C_below HL3.out hb); obtain ⟨A4, c4, e4⟩ := Kd.S_slice hS; subst e4; have HT4 := Aside0.mk (Kd.S_reads' hS).2.2; have HTC := Aside0.mk (Kd.S_reads' hS).2.1; clear hS hb)
          | (go_at_call_of 21 (Value.slice A0 t.length c0); refine (quota_Held.calls 0 _ _ t a 0 _ (Kd.C_below HR0.out HB4.out) HC0.out HH1.out).mono ?_; rintro e w5 ⟨v5, rfl, hR, hb⟩; have HB5 := Aside0.mk (below_step HB4.out hb); have HL5 := Aside0.mk (Kd.C_below HL4.out hb); have HT5 := Aside0.mk (Kd.C_below HT4.out hb); obtain ⟨A5, c5, e5⟩ := Kd.R_slice hR; subst e5; have HA5 := Aside0.mk (Kd.R_reads' hR).2.2; clear hR hb)
          | (go_at_call_of 21 (Value.slice A4 c.length c4); refine (quota_Held.calls 0 _ _ c b 0 _ HT5.out HTC.out HH2.out).mono ?_; rintro e w6 ⟨v6, rfl, hR, hb⟩; have HB6 := Aside0.mk (below_step HB5.out hb); have HL6 := Aside0.mk (Kd.C_below HL5.out hb); have HA6 := Aside0.mk (Kd.C_below HA5.out hb); obtain ⟨A6, c6, e6⟩ := Kd.R_slice hR; subst e6; have HB6r := Aside0.mk (Kd.R_reads' hR).2.2; clear hR hb))
        obtain ⟨wb, rfl⟩ : ∃ wo : World, wo = w6 := ⟨_, rfl⟩
        go_loopw [13] (fun d wr => ∃ k : Nat, d = .int .i64 k ∧ Aside0 (k ≤ q.length) ∧ Drawn0 wb wr) (fun d _ => q.length - (intOf d).toNat)
        case atStart => exact ⟨0, rfl, ⟨by omega⟩, Drawn0.refl _⟩
        case round =>
          obtain ⟨k, rfl, hk, ⟨m3, rfl⟩⟩ := hrel
          have hkl := hk.out
          by_cases hlt : k < q.length
          · have hlb : decide ((k : Int) < (q.length : Int)) = true := decide_eq_true (by omega)
            have hka : (k : Int) < (a.length : Int) := by rw [LA.out]; omega
            have hkb : (k : Int) < (b.length : Int) := by rw [LB.out]; omega
            obtain ⟨ada, e, hxa⟩ := Kd.at_int HA6.out k (by omega) hka
            cases e
            obtain ⟨adb, e, hxb⟩ := Kd.at_int HB6r.out k (by omega) hkb
            cases e
            obtain ⟨adq, e, hxq⟩ := Kd.at_int (Kd.C_below HR1.out HB6.out) k (by omega) (by omega)
            cases e
            rw [Int.toNat_natCast] at hxa hxb hxq
            obtain ⟨F6, F7⟩ := F4.out k hlt
            by_cases c7 : rd q k < rd a k
            · have d1 : decide (rd q k < rd a k) = true := decide_eq_true c7
              have d3 : decide (rd a k ≤ rd q k) = false := decide_eq_false (by omega)
              have e7 := F6 c7
              rw [e7] at hxb
              have d2 : (rd q k != rd q k) = false := by simp
              have d2' : (rd q k == rd q k) = true := by simp
              clear F6 F7 e7 c7
              go_wp2
              repeat (go_quiet (fail); try go_wp2)
              go_roundw
              case rel => exact ⟨k + 1, by go_num, ⟨by omega⟩, by repeat (first | exact Drawn0.refl _ | apply Drawn0.step)⟩
              case measure => simp [intOf]; omega
            · have d1 : decide (rd q k < rd a k) = false := decide_eq_false c7
              have d3 : decide (rd a k ≤ rd q k) = true := decide_eq_true (by omega)
              obtain ⟨e7, e8⟩ := F7 (by omega)
              have d4 : decide (rd q k < rd b k) = false := decide_eq_false (by omega)
              have d5 : decide (rd b k < rd a k) = false := decide_eq_false (by omega)
              clear F6 F7 e7 e8 c7
              go_wp2
              repeat (go_quiet (fail); try go_wp2)
              go_roundw
              case rel => exact ⟨k + 1, by go_num, ⟨by omega⟩, by repeat (first | exact Drawn0.refl _ | apply Drawn0.step)⟩
              case measure => simp [intOf]; omega
          · have hlb : decide ((k : Int) < (q.length : Int)) = false := decide_eq_false (by omega)
            go_wp2
            have hml : l.length ≤ 9223372036854775807 := HL6.out.2.1
            go_loopw [14] (fun i wi => ∃ j : Nat, i = .int .i64 j ∧ Aside0 (1 ≤ j ∧ j ≤ l.length + 1) ∧ Aside0 (Below wb.heap.size wb wi)) (fun i _ => l.length + 1 - (intOf i).toNat)
            case atStart => exact ⟨1, rfl, ⟨by omega⟩, ⟨pw_below_drewN (Below.refl _ _) _⟩⟩
            case round =>
              obtain ⟨j, rfl, hj, HBi⟩ := hrel
              have hj1 := hj.out.1
              by_cases hjl : j < l.length
              · have hjb : decide ((j : Int) < (l.length : Int)) = true := decide_eq_true (by omega)
                have hw1 : IntKind.i64.wrap ((j : Int) - 1) = (j : Int) - 1 := IntWalk.i64_in _ (by omega)
                have hj0 : (0 : Int) ≤ (j : Int) - 1 := by omega
                have hj2 : (j : Int) - 1 < (l.length : Int) := by omega
                obtain ⟨ad1, e, hx0, hx1, hx2, hx3⟩ := at_T29 (Kd.C_below HL6.out HBi.out) ((j : Int) - 1) (by omega) (by omega)
                cases e
                obtain ⟨ad2, e, hy0, hy1, hy2, hy3⟩ := at_T29 (Kd.C_below HL6.out HBi.out) (j : Int) (by omega) (by omega)
                cases e
                rw [show ((j : Int) - 1).toNat = j - 1 from by omega] at hx0 hx1 hx2 hx3
                rw [Int.toNat_natCast] at hy0 hy1 hy2 hy3
                have hlt' : P.ltM (rd_T29 l ((j : Int) - 1)) (rd_T29 l (j : Int)) := by
                  have e1 : rd_T29 l ((j : Int) - 1) = l[j - 1] := by simp [rd_T29, List.getD_eq_getElem?_getD, show ((j : Int) - 1).toNat = j - 1 from by omega, List.getElem?_eq_getElem (show j - 1 < l.length by omega)]
                  have e2 : rd_T29 l (j : Int) = l[j] := by simp [rd_T29, List.getD_eq_getElem?_getD, List.getElem?_eq_getElem hjl]
                  rw [e1, e2]
                  exact List.pairwise_iff_getElem.1 F5.out _ _ _ _ (by omega)
                obtain ⟨X, hX⟩ : ∃ X, X = rd_T29 l ((j : Int) - 1) := ⟨_, rfl⟩
                obtain ⟨Y, hY⟩ : ∃ Y, Y = rd_T29 l (j : Int) := ⟨_, rfl⟩
                rw [← hX] at hx0 hx1 hx2 hx3 hlt'
                rw [← hY] at hy0 hy1 hy2 hy3 hlt'
                obtain ⟨x0, x1, x2, x3⟩ := X
                obtain ⟨y0, y1, y2, y3⟩ := Y
                simp only at hx0 hx1 hx2 hx3 hy0 hy1 hy2 hy3
                unfold P.ltM at hlt'
                simp only at hlt'
                have HLT := Aside0.mk hlt'
                have hu29 := Try.underlying29
                clear hlt' hX hY
                go_wp2
                have bel2 : ∀ o o' : Obj, Below wr.heap.size wr ((wr.alloc o).alloc o').drew := fun o o' => below_drew1 (((Below.refl _ _).alloc (Nat.le_refl _) _).alloc (by simp) _)
                have bel1 : ∀ o : Obj, Below wr.heap.size wr (wr.alloc o).drew := fun o => below_drew1 ((Below.refl _ _).alloc (Nat.le_refl _) _)
                have hx0z : ∀ o o' : Obj, ((wr.alloc o).alloc o').drew.cell? (ad1.add ((j - 1) * 4)) = some (.int .i64 x0) := fun o o' => ((bel2 o o').cell (World.block_lt_of_cell? _ _ hx0)).trans hx0
                have hx0v : ∀ o : Obj, (wr.alloc o).drew.cell? (ad1.add ((j - 1) * 4)) = some (.int .i64 x0) := fun o => ((bel1 o).cell (World.block_lt_of_cell? _ _ hx0)).trans hx0
                have hx1z : ∀ o o' : Obj, ((wr.alloc o).alloc o').drew.cell? ⟨(ad1.add ((j - 1) * 4)).block, (ad1.add ((j - 1) * 4)).off + 1, none⟩ = some (.int .i64 x1) := fun o o' => ((bel2 o o').cell (World.block_lt_of_cell? _ _ hx1)).trans hx1
                have hx1v : ∀ o : Obj, (wr.alloc o).drew.cell? ⟨(ad1.add ((j - 1) * 4)).block, (ad1.add ((j - 1) * 4)).off + 1, none⟩ = some (.int .i64 x1) := fun o => ((bel1 o).cell (World.block_lt_of_cell? _ _ hx1)).trans hx1
                have hx2z : ∀ o o' : Obj, ((wr.alloc o).alloc o').drew.cell? ⟨(ad1.add ((j - 1) * 4)).block, (ad1.add ((j - 1) * 4)).off + 2, none⟩ = some (.int .i64 x2) := fun o o' => ((bel2 o o').cell (World.block_lt_of_cell? _ _ hx2)).trans hx2
                have hx2v : ∀ o : Obj, (wr.alloc o).drew.cell? ⟨(ad1.add ((j - 1) * 4)).block, (ad1.add ((j - 1) * 4)).off + 2, none⟩ = some (.int .i64 x2) := fun o => ((bel1 o).cell (World.block_lt_of_cell? _ _ hx2)).trans hx2
                have hx3z : ∀ o o' : Obj, ((wr.alloc o).alloc o').drew.cell? ⟨(ad1.add ((j - 1) * 4)).block, (ad1.add ((j - 1) * 4)).off + 3, none⟩ = some (.int .i64 x3) := fun o o' => ((bel2 o o').cell (World.block_lt_of_cell? _ _ hx3)).trans hx3
                have hx3v : ∀ o : Obj, (wr.alloc o).drew.cell? ⟨(ad1.add ((j - 1) * 4)).block, (ad1.add ((j - 1) * 4)).off + 3, none⟩ = some (.int .i64 x3) := fun o => ((bel1 o).cell (World.block_lt_of_cell? _ _ hx3)).trans hx3
                have hy0z : ∀ o o' : Obj, ((wr.alloc o).alloc o').drew.cell? (ad1.add (j * 4)) = some (.int .i64 y0) := fun o o' => ((bel2 o o').cell (World.block_lt_of_cell? _ _ hy0)).trans hy0
                have hy0v : ∀ o : Obj, (wr.alloc o).drew.cell? (ad1.add (j * 4)) = some (.int .i64 y0) := fun o => ((bel1 o).cell (World.block_lt_of_cell? _ _ hy0)).trans hy0
                have hy1z : ∀ o o' : Obj, ((wr.alloc o).alloc o').drew.cell? ⟨(ad1.add (j * 4)).block, (ad1.add (j * 4)).off + 1, none⟩ = some (.int .i64 y1) := fun o o' => ((bel2 o o').cell (World.block_lt_of_cell? _ _ hy1)).trans hy1
                have hy1v : ∀ o : Obj, (wr.alloc o).drew.cell? ⟨(ad1.add (j * 4)).block, (ad1.add (j * 4)).off + 1, none⟩ = some (.int .i64 y1) := fun o => ((bel1 o).cell (World.block_lt_of_cell? _ _ hy1)).trans hy1
                have hy2z : ∀ o o' : Obj, ((wr.alloc o).alloc o').drew.cell? ⟨(ad1.add (j * 4)).block, (ad1.add (j * 4)).off + 2, none⟩ = some (.int .i64 y2) := fun o o' => ((bel2 o o').cell (World.block_lt_of_cell? _ _ hy2)).trans hy2
                have hy2v : ∀ o : Obj, (wr.alloc o).drew.cell? ⟨(ad1.add (j * 4)).block, (ad1.add (j * 4)).off + 2, none⟩ = some (.int .i64 y2) := fun o => ((bel1 o).cell (World.block_lt_of_cell? _ _ hy2)).trans hy2
                have hy3z : ∀ o o' : Obj, ((wr.alloc o).alloc o').drew.cell? ⟨(ad1.add (j * 4)).block, (ad1.add (j * 4)).off + 3, none⟩ = some (.int .i64 y3) := fun o o' => ((bel2 o o').cell (World.block_lt_of_cell? _ _ hy3)).trans hy3
                have hy3v : ∀ o : Obj, (wr.alloc o).drew.cell? ⟨(ad1.add (j * 4)).block, (ad1.add (j * 4)).off + 3, none⟩ = some (.int .i64 y3) := fun o => ((bel1 o).cell (World.block_lt_of_cell? _ _ hy3)).trans hy3
                clear bel1 bel2
                go_region
                all_goals
                  rcases HLT.out with h1 | ⟨h1, h2 | ⟨h2, h3⟩⟩
                  · have d1 : decide (y0 < x0) = false := decide_eq_false (by omega)
                    have d2 : (x0 == y0) = false := beq_eq_false_iff_ne.2 (by omega)
                    clear h1
                    go_wp2
                    repeat (go_quiet (fail); try go_wp2)
                    go_roundw
                    case rel => exact ⟨j + 1, by go_num, ⟨by omega⟩, ⟨by repeat (first | (with_reducible first | exact HBi.out | apply below_alloc | apply pw_below_drewN | apply below_drew1) | exact HBi.out)⟩⟩
                    case measure => simp [intOf]; omega
                  · have d1 : decide (y0 < x0) = false := decide_eq_false (by omega)
                    have d2 : (x0 == y0) = true := beq_iff_eq.2 h1
                    have d3 : decide (y2 < x2) = false := decide_eq_false (by omega)
                    have d4 : (x2 == y2) = false := beq_eq_false_iff_ne.2 (by omega)
                    clear h1 h2
                    go_wp2
                    repeat (go_quiet (fail); try go_wp2)
                    go_roundw
                    case rel => exact ⟨j + 1, by go_num, ⟨by omega⟩, ⟨by repeat (first | (with_reducible first | exact HBi.out | apply below_alloc | apply pw_below_drewN | apply below_drew1) | exact HBi.out)⟩⟩
                    case measure => simp [intOf]; omega
                  · have d1 : decide (y0 < x0) = false := decide_eq_false (by omega)
                    have d2 : (x0 == y0) = true := beq_iff_eq.2 h1
                    have d3 : decide (y2 < x2) = false := decide_eq_false (by omega)
                    have d4 : (x2 == y2) = true := beq_iff_eq.2 h2
                    have d5 : decide (y1 ≤ x1) = false := decide_eq_false (by omega)
                    clear h1 h2 h3
                    go_wp2
                    repeat (go_quiet (fail); try go_wp2)
                    go_roundw
                    case rel => exact ⟨j + 1, by go_num, ⟨by omega⟩, ⟨by repeat (first | (with_reducible first | exact HBi.out | apply below_alloc | apply pw_below_drewN | apply below_drew1) | exact HBi.out)⟩⟩
                    case measure => simp [intOf]; omega
              · have hjb : decide ((j : Int) < (l.length : Int)) = false := decide_eq_false (by omega)
                go_wp2
                go_ret
                exact ⟨rfl, below_step HB6.out (by repeat (first | (with_reducible first | exact HBi.out | apply below_alloc | apply pw_below_drewN | apply below_drew1) | exact HBi.out))⟩
      · have hl0 : l = [] ∧ (e0 = 1 ∨ e0 = 7) := by
          rw [hl, he0] at *
          rcases P.settle_err t q with h | h
          · exact absurd h hz
          · exact h
        obtain ⟨rfl, hor⟩ := hl0
        have hzb : (e0 == 0) = false := beq_eq_false_iff_ne.2 hz
        have hzn : (e0 != 0) = true := bne_iff_ne.2 hz
        clear hl he0 hz hlow
        rcases hor with rfl | rfl
        · go_enter Try.func5, Try.ntmps5
          go_wp2_with (first | (go_at_call 14; refine (kinkeeplaw35_awake.calls 0 true _ rfl).mono ?_; rintro e w1 ⟨rfl, hb⟩; have HB := Aside0.mk hb; clear hb) | (go_at_call 19; refine (kinkeeplaw35_low.calls kl _ _ t 12 1000 true _ (by first | exact Kd.C_below HR0.out HB.out | exact Kd.C_drewN (Kd.C_below HR0.out HB.out) _) HC0.out HKL.out).mono ?_; rintro e w2 ⟨rfl, ⟨m2, rfl⟩⟩) | (go_at_call 20; refine (quota_Settle.calls 0 _ _ t _ _ q [] _ _ (Kd.C_below HR0.out (by first | exact HB.out | exact pw_below_drewN HB.out _)) HC0.out (Kd.C_below HR1.out (by first | exact HB.out | exact pw_below_drewN HB.out _)) HC1.out HSO.out).mono ?_; rintro e w3 ⟨v3, rfl, hR, hb⟩; have HB3 := Aside0.mk (below_step (by first | exact HB.out | exact pw_below_drewN HB.out _) hb); have HR3 := Aside0.mk hR; obtain ⟨A3, c3, e3⟩ := Kd.R_slice hR; subst e3; clear hR hb))
          go_ret
          exact ⟨rfl, by repeat (first | (with_reducible first | exact HB3.out | apply below_alloc | apply pw_below_drewN | apply below_drew1) | exact HB3.out)⟩
        · go_enter Try.func5, Try.ntmps5
          go_wp2_with (first | (go_at_call 14; refine (kinkeeplaw35_awake.calls 0 true _ rfl).mono ?_; rintro e w1 ⟨rfl, hb⟩; have HB := Aside0.mk hb; clear hb) | (go_at_call 19; refine (kinkeeplaw35_low.calls kl _ _ t 12 1000 true _ (by first | exact Kd.C_below HR0.out HB.out | exact Kd.C_drewN (Kd.C_below HR0.out HB.out) _) HC0.out HKL.out).mono ?_; rintro e w2 ⟨rfl, ⟨m2, rfl⟩⟩) | (go_at_call 20; refine (quota_Settle.calls 0 _ _ t _ _ q [] _ _ (Kd.C_below HR0.out (by first | exact HB.out | exact pw_below_drewN HB.out _)) HC0.out (Kd.C_below HR1.out (by first | exact HB.out | exact pw_below_drewN HB.out _)) HC1.out HSO.out).mono ?_; rintro e w3 ⟨v3, rfl, hR, hb⟩; have HB3 := Aside0.mk (below_step (by first | exact HB.out | exact pw_below_drewN HB.out _) hb); have HR3 := Aside0.mk hR; obtain ⟨A3, c3, e3⟩ := Kd.R_slice hR; subst e3; clear hR hb))
          go_ret
          exact ⟨rfl, by repeat (first | (with_reducible first | exact HB3.out | apply below_alloc | apply pw_below_drewN | apply below_drew1) | exact HB3.out)⟩
end Go.Proofs.Ytdljbmgknhbceaa.A
