import Derived.Test.YtdljbmgknhbceaaAg
namespace Go.Proofs.Ytdljbmgknhbceaa.A
open Go.RowKit Go.Proofs.YtdljbmgknhbceaaW.PrintWords Go.Proofs.YtdljbmgknhbceaaW.PrintLast Go.Proofs.YtdljbmgknhbceaaW.PrintMore Go.Proofs.Ytdljbmgknhbceaa.Q
set_option linter.unusedVariables false
set_option linter.unusedSimpArgs false

theorem pushE_sq {n : Nat} {g : List (List Int)} (h : Sqn n g) (d : Int) (e : Int × Int) : Sqn n (pushE g d e) := (h.upd _ _ _).upd _ _ _
theorem push_sq {n : Nat} (d : Int) : ∀ (es : List (Int × Int)) (g : List (List Int)), Sqn n g → Sqn n (push g d es)
  | [], g, h => h
  | e :: es, g, h => push_sq d es _ (pushE_sq h d e)
theorem augG_sq {n : Nat} {g : List (List Int)} (h : Sqn n g) (s t l : Int) : Sqn n (augG g s t l).1 := by
  unfold augG
  simp only []
  split
  · exact h
  · exact push_sq _ _ _ h
theorem lim_le (g : List (List Int)) : ∀ (es : List (Int × Int)) (l : Int), lim g es l ≤ l
  | [], l => Int.le_refl _
  | e :: es, l => by
    rw [lim]
    have := lim_le g es (min l (get g e.1 e.2))
    omega
theorem lim_trail {g : List (List Int)} {n : Nat} {s : Int} {b q : List Int} {cl : Int → Int → Prop} (h : BI g n s b q cl) {rk : Int → Nat} {m : Nat} (ht : ∀ y : Int, 0 ≤ y → y < n → 0 ≤ rd b y → rk y < m ∧ (y ≠ s → 0 ≤ rd b (rd b y) ∧ rk (rd b y) < rk y ∧ 0 < get g (rd b y) y)) :
    ∀ (f : Nat) (y l : Int), 0 ≤ y → y < n → 0 ≤ rd b y → 0 < l → 0 < lim g (trail b s f y) l := by
  intro f
  induction f with
  | zero => intro y l _ _ _ hl; exact hl
  | succ f ih =>
    intro y l y0 y1 yv hl
    rw [trail]
    split
    · exact hl
    · rename_i hys
      obtain ⟨p0, _, pe⟩ := (ht y y0 y1 yv).2 hys
      have := h.rng y y0 y1
      rw [lim]
      exact ih (rd b y) _ yv this.2 p0 (by simp only []; omega)
theorem augG_pos {n : Nat} {g : List (List Int)} (h : Sqn n g) (s t l : Int) (s0 : 0 ≤ s) (s1 : s < n) (t0 : 0 ≤ t) (t1 : t < n) (hl : 0 < l) : 0 ≤ (augG g s t l).2 ∧ (augG g s t l).2 ≤ l := by
  have hend := bfs_end (t := t) h.1 s0 s1 (n + 1) (initB n s) [s] (BI.init g n s s0 s1) (by
    have := unv_set (List.replicate n (-1)) s.toNat s (by simp; omega) (by simp) s0
    rw [unv_replicate] at this
    show unv (initB n s) + 1 < n + 1
    unfold initB
    omega)
  have hbef : before g s t = bfs g t (n + 1) (initB n s, [s]) := by rw [before, h.1]
  rw [← hbef] at hend
  obtain ⟨q, hB, _⟩ := hend
  obtain ⟨rk, m, _, ht⟩ := hB.tree
  unfold augG
  simp only []
  split
  · simp only []; omega
  · rename_i hv
    have := lim_trail hB ht g.length t l t0 t1 (by omega) hl
    have := lim_le g (trail (before g s t) s g.length t) l
    simp only []
    omega

set_option maxHeartbeats 4000000 in
set_option maxRecDepth 100000 in
theorem flow_any (n : Nat) (A : Option Addr) (c : Nat) (g : List (List Int)) (s t l : Int) (W : World) (base : Nat) (ok : Nat → Prop) (hs : Kd.S KT 31 W base ok (.slice A n c) g) (hq : Sqn n g) (hn : n ≤ 1000)
    (s0 : 0 ≤ s) (s1 : s < n) (t0 : 0 ≤ t) (t1 : t < n) (hl0 : 0 ≤ l) (hl1 : l ≤ 1125899906842624) :
    Calls Try.prog 50 #[.slice A n c, .int .i64 s, .int .i64 t, .int .i64 l] W fun e w' => e = .returned (.int .i64 (flowG s t l l.toNat g 0).2) ∧ Kd.S KT 31 w' base ok (.slice A n c) (flowG s t l l.toNat g 0).1 ∧ Fr ok W w' := by
  have HS := Aside0.mk hs
  have HQ := Aside0.mk hq
  clear hs hq
  go_enter Try.func50, Try.ntmps50
  go_wp2_with fail
  go_loopg [9] l.toNat (fun f v9 wr => ∃ (sent : Int) (G : List (List Int)), v9 = .int .i64 sent ∧ Aside0 (flowG s t l l.toNat g 0 = flowG s t l f G sent) ∧ Aside0 (0 ≤ sent ∧ (l - sent).toNat ≤ f ∧ sent ≤ l) ∧ Aside0 (Sqn n G) ∧ Aside0 (Kd.S KT 31 wr base ok (.slice A n c) G) ∧ Aside0 (Fr ok W wr))
  case atStart => exact ⟨0, g, rfl, ⟨rfl⟩, ⟨⟨by omega, by omega, hl0⟩⟩, HQ, HS, ⟨Fr.of_below (Below.refl _ _)⟩⟩
  case round =>
    clear HS
    obtain ⟨sent, G, rfl, hE, hb, HQG, HSG, HF⟩ := hrel
    obtain ⟨b0, b1, b2⟩ := hb.out
    by_cases hlt : sent < l
    · have hlb : decide (sent < l) = true := decide_eq_true hlt
      cases gk with
      | zero => omega
      | succ f =>
        have hr := augG_pos HQG.out s t (l - sent) s0 s1 t0 t1 (by omega)
        obtain ⟨r, hr2⟩ : ∃ r, r = augG G s t (l - sent) := ⟨_, rfl⟩
        have hE2 : Aside0 (flowG s t l l.toNat g 0 = if r.2 = 0 then (r.1, sent) else flowG s t l f r.1 (sent + r.2)) := ⟨by rw [hE.out, flowG, if_pos hlt, hr2]⟩
        have HQ2 := Aside0.mk (show Sqn n r.1 from by rw [hr2]; exact augG_sq HQG.out _ _ _)
        have HR := Aside0.mk hr2
        rw [← hr2] at hr
        obtain ⟨r0, r1⟩ := hr
        obtain ⟨G', x⟩ := r
        simp only at r0 r1 hE2 HQ2
        have HX1 := Aside0.mk (show (augG G s t (l - sent)).1 = G' from by rw [← HR.out])
        have HX2 := Aside0.mk (show (augG G s t (l - sent)).2 = x from by rw [← HR.out])
        clear HR hr2 hlt hE
        by_cases hx : x = 0
        · have hxb : (x == 0) = true := beq_iff_eq.2 hx
          rw [if_pos hx] at hE2
          clear hx
          go_wp2_with (go_at_call 67; refine (augment_any n A c G s t (l - sent) _ base ok HSG.out HQG.out hn s0 s1 t0 t1).mono ?_; rw [HX1.out, HX2.out]; rintro e w1 ⟨rfl, hS, hF⟩; have HS1 := Aside0.mk hS; have HF1 := Aside0.mk (HF.out.trans hF); clear hS hF)
          go_ret
          exact ⟨by rw [hE2.out]; rfl, by rw [hE2.out]; exact HS1.out, HF1.out⟩
        · have hxb : (x == 0) = false := beq_eq_false_iff_ne.2 hx
          rw [if_neg hx] at hE2
          have hx1 : 1 ≤ x := by omega
          clear hx
          go_wp2_with (go_at_call 67; refine (augment_any n A c G s t (l - sent) _ base ok HSG.out HQG.out hn s0 s1 t0 t1).mono ?_; rw [HX1.out, HX2.out]; rintro e w1 ⟨rfl, hS, hF⟩; have HS1 := Aside0.mk hS; have HF1 := Aside0.mk (HF.out.trans hF); clear hS hF)
          go_roundg f
          case measure => omega
          case rel => exact ⟨sent + x, G', rfl, hE2, ⟨⟨by omega, by omega, by omega⟩⟩, HQ2, HS1, HF1⟩
    · have hlb : decide (sent < l) = false := decide_eq_false hlt
      have hfin : Aside0 (flowG s t l l.toNat g 0 = (G, sent)) := ⟨by
        rw [hE.out]
        cases gk with
        | zero => rfl
        | succ f => rw [flowG, if_neg hlt]⟩
      clear hlt
      go_wp2_with fail
      go_ret
      exact ⟨by rw [hfin.out]; rfl, by rw [hfin.out]; exact HSG.out, HF.out⟩

end Go.Proofs.Ytdljbmgknhbceaa.A
