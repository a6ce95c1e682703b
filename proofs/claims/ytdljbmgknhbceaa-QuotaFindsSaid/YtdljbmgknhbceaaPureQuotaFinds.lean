import Derived.Test.YtdljbmgknhbceaaQx54
import Derived.Test.YtdljbmgknhbceaaMk
namespace Go.Proofs.Ytdljbmgknhbceaa.Pure
open Go.RowKit Go.Proofs.YtdljbmgknhbceaaW.PrintWords Go.Proofs.Ytdljbmgknhbceaa.Q Go.Proofs.Ytdljbmgknhbceaa.P
set_option linter.unusedVariables false
set_option linter.unusedSimpArgs false
set_option linter.unusedSectionVars false

/-! ### what was moved so far -/
structure Inv (n : Nat) (t : List (List Int)) (q held : List Int) (now : List (List Int)) (M : Nat → Nat → Nat → Int) : Prop where
  hl : held.length = n
  sq : A.Sqn n now
  m0 : ∀ f o k, f < n → o < n → k < n → 0 ≤ M f o k
  mz : ∀ f o k, f < n → o < n → k < n → M f o k ≠ 0 → okM (A.heldT t) q f o k
  nw : ∀ f o : Nat, f < n → o < n → A.get now f o = A.get t f o - isum (M f o) n
  n0 : ∀ f o : Nat, f < n → o < n → 0 ≤ A.get now f o
  hd : ∀ d : Nat, d < n → rd held d = rd (A.heldT t) d - isum (fun o => isum (M d o) n) n + isum (fun f => isum (fun o => M f o d) n) n
  ov : ∀ d : Nat, d < n → overB (A.heldT t) q d → rd q d ≤ rd held d
  un : ∀ d : Nat, d < n → ¬ overB (A.heldT t) q d → rd held d ≤ rd q d
theorem rdset (l : List Int) (i d : Nat) (v : Int) (hi : i < l.length) (hd : d < l.length) : rd (l.set i v) d = if d = i then v else rd l d := by
  rw [rd_eq _ d (by simpa using hd), rd_eq l d hd, List.getElem_set]
  by_cases h : i = d
  · rw [if_pos h, if_pos h.symm]
  · rw [if_neg h, if_neg (fun e => h e.symm)]
def bump (M : Nat → Nat → Nat → Int) (h o0 kk : Nat) (x : Int) (f o k : Nat) : Int := M f o k + (if f = h ∧ o = o0 ∧ k = kk then x else 0)
theorem bump_row (M : Nat → Nat → Nat → Int) {n h o0 kk : Nat} (x : Int) (hk : kk < n) (f o : Nat) : isum (bump M h o0 kk x f o) n = isum (M f o) n + (if f = h ∧ o = o0 then x else 0) := by
  have : isum (bump M h o0 kk x f o) n = isum (fun k => M f o k + (if f = h ∧ o = o0 ∧ k = kk then x else 0)) n := rfl
  rw [this, isum_add]
  congr 1
  by_cases c : f = h ∧ o = o0
  · rw [if_pos c, isum_congr (g := fun k => if k = kk then x else 0) (fun k _ => by simp [c.1, c.2]), isum_pt, if_pos hk]
  · rw [if_neg c, isum_congr (g := fun _ => 0) (fun k _ => by rw [if_neg (fun e => c ⟨e.1, e.2.1⟩)]), isum_zero]
theorem bump_give (M : Nat → Nat → Nat → Int) {n h o0 kk : Nat} (x : Int) (hk : kk < n) (ho : o0 < n) (d : Nat) : isum (fun o => isum (bump M h o0 kk x d o) n) n = isum (fun o => isum (M d o) n) n + (if d = h then x else 0) := by
  rw [isum_congr (fun o _ => bump_row M x hk d o), isum_add]
  congr 1
  by_cases c : d = h
  · rw [if_pos c, isum_congr (g := fun o => if o = o0 then x else 0) (fun o _ => by simp [c]), isum_pt, if_pos ho]
  · rw [if_neg c, isum_congr (g := fun _ => 0) (fun o _ => by rw [if_neg (fun e => c e.1)]), isum_zero]
theorem bump_take (M : Nat → Nat → Nat → Int) {n h o0 kk : Nat} (x : Int) (hh : h < n) (ho : o0 < n) (d : Nat) : isum (fun f => isum (fun o => bump M h o0 kk x f o d) n) n = isum (fun f => isum (fun o => M f o d) n) n + (if d = kk then x else 0) := by
  have e1 : ∀ f, isum (fun o => bump M h o0 kk x f o d) n = isum (fun o => M f o d) n + (if f = h ∧ d = kk then x else 0) := fun f => by
    have : isum (fun o => bump M h o0 kk x f o d) n = isum (fun o => M f o d + (if f = h ∧ o = o0 ∧ d = kk then x else 0)) n := rfl
    rw [this, isum_add]
    congr 1
    by_cases c : f = h ∧ d = kk
    · rw [if_pos c, isum_congr (g := fun o => if o = o0 then x else 0) (fun o _ => by simp [c.1, c.2]), isum_pt, if_pos ho]
    · rw [if_neg c, isum_congr (g := fun _ => 0) (fun o _ => by rw [if_neg (fun e => c ⟨e.1, e.2.2⟩)]), isum_zero]
  rw [isum_congr (fun f _ => e1 f), isum_add]
  congr 1
  by_cases c : d = kk
  · rw [if_pos c, isum_congr (g := fun f => if f = h then x else 0) (fun f _ => by simp [c]), isum_pt, if_pos hh]
  · rw [if_neg c, isum_congr (g := fun _ => 0) (fun f _ => by rw [if_neg (fun e => c e.2)]), isum_zero]
section
variable {n : Nat} {t : List (List Int)} {q : List Int} (hn : t.length = n) (hf : A.fitsT t q = true)
include hn hf
theorem inv_bounds {held : List Int} {now : List (List Int)} {M : Nat → Nat → Nat → Int} (h : Inv n t q held now M) (d : Nat) (hd : d < n) : 0 ≤ rd held d ∧ rd held d ≤ 20000000000000 := by
  have hv := fit_valid hf
  have a := A.held_bound hv d (by omega) (by omega)
  have b := A.quota_bound hf d (by omega) (by omega)
  have e := h.hd d hd
  by_cases c : overB (A.heldT t) q d
  · have z : isum (fun f => isum (fun o => M f o d) n) n = 0 := by
      rw [isum_congr (g := fun _ => 0) (fun f hfn => by
        rw [isum_congr (g := fun _ => 0) (fun o hon => by
          by_cases z : M f o d = 0
          · exact z
          · exact absurd c (h.mz f o d hfn hon hd z).2.2.2.2), isum_zero]), isum_zero]
    have g0 : 0 ≤ isum (fun o => isum (M d o) n) n := isum_nonneg (fun o hon => isum_nonneg (fun k hkn => h.m0 d o k hd hon hkn))
    have := h.ov d hd c
    omega
  · have z : isum (fun o => isum (M d o) n) n = 0 := by
      rw [isum_congr (g := fun _ => 0) (fun o hon => by
        rw [isum_congr (g := fun _ => 0) (fun k hkn => by
          by_cases z : M d o k = 0
          · exact z
          · exact absurd (h.mz d o k hd hon hkn z).1 c), isum_zero]), isum_zero]
    have g0 : 0 ≤ isum (fun f => isum (fun o => M f o d) n) n := isum_nonneg (fun f hfn => isum_nonneg (fun o hon => h.m0 f o d hfn hon hd))
    have := h.un d hd c
    omega
theorem inv_start : Inv n t q (A.heldT t) t (fun _ _ _ => 0) := by
  have hv := fit_valid hf
  have hG := A.valid_good hv
  rw [hn] at hG
  refine ⟨by simp [A.heldT, hn], hG.1, fun _ _ _ _ _ _ => Int.le_refl _, fun _ _ _ _ _ _ e => absurd rfl e, fun f o _ _ => ?_, fun f o h1 h2 => (hG.2 f o (by omega) (by omega) (by omega) (by omega)).1, fun d _ => ?_, fun d _ h => ?_, fun d _ h => ?_⟩
  · have : isum ((fun _ _ _ => 0 : Nat → Nat → Nat → Int) f o) n = 0 := isum_zero n
    rw [this]; omega
  · have e1 : isum (fun o => isum ((fun _ _ _ => 0 : Nat → Nat → Nat → Int) d o) n) n = 0 := by
      rw [isum_congr (g := fun _ => 0) (fun o _ => isum_zero n), isum_zero]
    have e2 : isum (fun f => isum (fun o => (fun _ _ _ => 0 : Nat → Nat → Nat → Int) f o d) n) n = 0 := by
      rw [isum_congr (g := fun _ => 0) (fun o _ => isum_zero n), isum_zero]
    first | (rw [e1, e2]; omega) | (rw [e1]; omega)
  · unfold overB at h; omega
  · unfold overB at h; omega
theorem inv_step {held : List Int} {now : List (List Int)} {M : Nat → Nat → Nat → Int} (h : Inv n t q held now M) (f o k : Nat) (hfn : f < n) (hon : o < n) (hkn : k < n) (h1 : k ≠ f) (h2 : k ≠ o) (h3 : o ≠ f) (x : Int) (x0 : 0 < x)
    (x1 : x ≤ rd held f - rd q f) (x2 : x ≤ A.get now f o) (x3 : x ≤ rd q k - rd held k) :
    Inv n t q ((held.set f (rd held f - x)).set k (rd held k + x)) (A.upd now f o (A.get now f o - x)) (bump M f o k x) := by
  have hov : overB (A.heldT t) q f := by
    by_cases c : overB (A.heldT t) q f
    · exact c
    · have := h.un f hfn c; omega
  have hun : ¬ overB (A.heldT t) q k := fun c => by have := h.ov k hkn c; omega
  have hr : ∀ d : Nat, d < n → rd ((held.set f (rd held f - x)).set k (rd held k + x)) d = rd held d - (if d = f then x else 0) + (if d = k then x else 0) := fun d hd => by
    have hl := h.hl
    rw [rdset _ k d _ (by rw [List.length_set]; omega) (by rw [List.length_set]; omega), rdset held f d _ (by omega) (by omega)]
    by_cases c1 : d = k
    · subst c1
      rw [if_pos rfl, if_pos rfl, if_neg h1]; omega
    · rw [if_neg c1, if_neg c1]
      by_cases c2 : d = f
      · subst c2; rw [if_pos rfl, if_pos rfl]; omega
      · rw [if_neg c2, if_neg c2]; omega
  refine ⟨by simp [h.hl], h.sq.upd _ _ _, fun f' o' k' a b c => ?_, fun f' o' k' a b c hne => ?_, fun f' o' a b => ?_, fun f' o' a b => ?_, fun d hd => ?_, fun d hd c => ?_, fun d hd c => ?_⟩
  · have := h.m0 f' o' k' a b c
    unfold bump
    split <;> omega
  · by_cases c1 : f' = f ∧ o' = o ∧ k' = k
    · obtain ⟨rfl, rfl, rfl⟩ := c1
      exact ⟨hov, h3, h1, h2, hun⟩
    · refine h.mz f' o' k' a b c ?_
      unfold bump at hne
      rw [if_neg c1] at hne
      omega
  · rw [bump_row M x hkn, A.get_upd h.sq f o _ f' o' (by omega) (by omega) (by omega) (by omega) (by omega) (by omega), h.nw f' o' a b]
    simp only [Int.natCast_inj]
    by_cases c : f' = f ∧ o' = o
    · obtain ⟨rfl, rfl⟩ := c
      rw [if_pos ⟨rfl, rfl⟩, if_pos ⟨rfl, rfl⟩]
      have := h.nw f' o' a b
      omega
    · rw [if_neg c, if_neg c]; omega
  · rw [A.get_upd h.sq f o _ f' o' (by omega) (by omega) (by omega) (by omega) (by omega) (by omega)]
    have := h.n0 f' o' a b
    split <;> omega
  · rw [hr d hd, bump_give M x hkn hon, bump_take M x hfn hon, h.hd d hd]
    omega
  · rw [hr d hd]
    have := h.ov d hd c
    have : d ≠ k := fun e => hun (e ▸ c)
    rw [if_neg this]
    by_cases e : d = f
    · subst e; rw [if_pos rfl]; omega
    · rw [if_neg e]; omega
  · rw [hr d hd]
    have := h.un d hd c
    have : d ≠ f := fun e => c (e ▸ hov)
    rw [if_neg this]
    by_cases e : d = k
    · subst e; rw [if_pos rfl]; omega
    · rw [if_neg e]; omega
theorem inv_end {held : List Int} {now : List (List Int)} {M : Nat → Nat → Nat → Int} (h : Inv n t q held now M) (hall : ∀ d : Nat, d < n → rd held d ≤ rd q d) : (A.settleOut t q).2 = 0 := by
  have hv := fit_valid hf
  have hrow : ∀ f o : Nat, f < n → o < n → isum (M f o) n ≤ A.get t f o := fun f o a b => by
    have := h.nw f o a b
    have := h.n0 f o a b
    omega
  have htk : ∀ d, d < n → overB (A.heldT t) q d → isum (fun f => isum (fun o => M f o d) n) n = 0 := fun d hd c => by
    rw [isum_congr (g := fun _ => 0) (fun f hfn => by
      rw [isum_congr (g := fun _ => 0) (fun o hon => by
        by_cases z : M f o d = 0
        · exact z
        · exact absurd c (h.mz f o d hfn hon hd z).2.2.2.2), isum_zero]), isum_zero]
  have hgv : ∀ d, d < n → ¬ overB (A.heldT t) q d → isum (fun o => isum (M d o) n) n = 0 := fun d hd c => by
    rw [isum_congr (g := fun _ => 0) (fun o hon => by
      rw [isum_congr (g := fun _ => 0) (fun k hkn => by
        by_cases z : M d o k = 0
        · exact z
        · exact absurd (h.mz d o k hd hon hkn z).1 c), isum_zero]), isum_zero]
  subst hn
  refine relief_full hf M h.m0 h.mz (fun f o k a b c => ?_) (fun f o a b => hrow f o a b) (fun f a c => ?_) (fun k a c => ?_)
  · have h1 := isum_one (f := M f o) k c (fun k hk => h.m0 f o k a b hk)
    have h2 := hrow f o a b
    have h3 := (A.valid_good hv).2 f o (by omega) (by omega) (by omega) (by omega)
    omega
  · have h1 := h.hd f a
    have h2 := htk f a c
    have h3 := h.ov f a c
    have h4 := hall f a
    omega
  · have h1 := h.hd k a
    have h2 := hgv k a c
    have h4 := hall k a
    omega

/-! ### the loops -/
variable {held0 : List Int} {ord : List Int}
theorem fin_l3 (hn12 : n ≤ 12) (hql : q.length = n) {held : List Int} {now : List (List Int)} {M : Nat → Nat → Nat → Int} (h : Inv n t q held now M) : ∀ (m d : Nat), n - d ≤ m → d ≤ n → (∀ j : Nat, j < d → rd held j ≤ rd q j) →
    ∃ k, kinkeeplaw35_QuotaFinds.l3 k t q (A.settleOut t q).2 held (d : Int) = some true := by
  have hl := h.hl
  have ends : ∀ d : Nat, d = n → (∀ j : Nat, j < d → rd held j ≤ rd q j) → ∃ k, kinkeeplaw35_QuotaFinds.l3 k t q (A.settleOut t q).2 held (d : Int) = some true := by
    rintro d rfl hj
    refine ⟨1, ?_⟩
    rw [kinkeeplaw35_QuotaFinds.l3, if_neg (by omega), inv_end hn hf h hj]
    rfl
  intro m
  induction m with
  | zero => intro d h1 h2 hj; exact ends d (by omega) hj
  | succ m ih =>
    intro d h1 h2 hj
    by_cases c : d < n
    · have hw : wrap64 ((d : Int) + 1) = ((d + 1 : Nat) : Int) := by rw [w64 (by omega)]; rfl
      by_cases e : rd held d > rd q d
      · refine ⟨1, ?_⟩
        rw [kinkeeplaw35_QuotaFinds.l3, if_pos (by omega), if_pos (by omega), if_pos (by omega), if_pos (by omega), if_pos e]
      · obtain ⟨k, hk⟩ := ih (d + 1) (by omega) (by omega) (fun j hjd => by
          by_cases e2 : j = d
          · subst e2; omega
          · exact hj j (by omega))
        refine ⟨k + 1, ?_⟩
        rw [kinkeeplaw35_QuotaFinds.l3, if_pos (by omega), if_pos (by omega), if_pos (by omega), if_pos (by omega), if_neg e, hw]
        exact hk
    · exact ends d (by omega) hj
theorem fin_l2 (hn12 : n ≤ 12) (hql : q.length = n) (hol : ord.length ≤ 12) (i h o : Nat) (hh : h < n) (ho : o < n) (hnext : ∀ held now M, Inv n t q held now M → ∃ k, kinkeeplaw35_QuotaFinds.l1 k t q ord (A.settleOut t q).2 held now (i : Int) (h : Int) ((o + 1 : Nat) : Int) = some true) :
    ∀ (c : Nat) (held : List Int) (now : List (List Int)) (M : Nat → Nat → Nat → Int), c ≤ ord.length → Inv n t q held now M → ∃ k, kinkeeplaw35_QuotaFinds.l2 k t q ord (A.settleOut t q).2 held now (i : Int) (h : Int) (o : Int) ((c : Int) - 1) = some true := by
  intro c
  induction c with
  | zero =>
    intro held now M hc hI
    obtain ⟨k, hk⟩ := hnext held now M hI
    have hw : wrap64 ((o : Int) + 1) = ((o + 1 : Nat) : Int) := by rw [w64 (by omega)]; rfl
    refine ⟨k + 1, ?_⟩
    rw [kinkeeplaw35_QuotaFinds.l2, if_neg (by omega), hw]
    exact hk
  | succ c ih =>
    intro held now M hc hI
    have hw : wrap64 (((c + 1 : Nat) : Int) - 1 - 1) = (c : Int) - 1 := by rw [w64 (by omega)]; omega
    have skip : ∃ k, ∀ tt : Int, kinkeeplaw35_QuotaFinds.j6 k t q ord (A.settleOut t q).2 held now (i : Int) (h : Int) (o : Int) (((c + 1 : Nat) : Int) - 1) tt true = some true := by
      obtain ⟨k, hk⟩ := ih held now M (by omega) hI
      refine ⟨k + 1, fun tt => ?_⟩
      rw [kinkeeplaw35_QuotaFinds.j6, if_pos rfl, hw]
      exact hk
    obtain ⟨ks, hs⟩ := skip
    by_cases c1 : rd ord (((c + 1 : Nat) : Int) - 1) < 0
    · refine ⟨ks + 1, ?_⟩
      rw [kinkeeplaw35_QuotaFinds.l2, if_pos (by omega), if_pos (by omega), if_pos (by omega), if_pos c1]
      exact hs _
    by_cases c2 : rd ord (((c + 1 : Nat) : Int) - 1) ≥ (t.length : Int)
    · refine ⟨ks + 1, ?_⟩
      rw [kinkeeplaw35_QuotaFinds.l2, if_pos (by omega), if_pos (by omega), if_pos (by omega), if_neg c1, if_pos c2]
      exact hs _
    by_cases c3 : rd ord (((c + 1 : Nat) : Int) - 1) = (h : Int)
    · refine ⟨ks + 1, ?_⟩
      rw [kinkeeplaw35_QuotaFinds.l2, if_pos (by omega), if_pos (by omega), if_pos (by omega), if_neg c1, if_neg c2, if_pos c3]
      exact hs _
    by_cases c4 : rd ord (((c + 1 : Nat) : Int) - 1) = (o : Int)
    · refine ⟨ks + 1, ?_⟩
      rw [kinkeeplaw35_QuotaFinds.l2, if_pos (by omega), if_pos (by omega), if_pos (by omega), if_neg c1, if_neg c2, if_neg c3, if_pos c4]
      exact hs _
    by_cases c5 : o = h
    · refine ⟨ks + 1, ?_⟩
      have : ((o : Int) == (h : Int)) = true := by rw [c5]; simp
      rw [kinkeeplaw35_QuotaFinds.l2, if_pos (by omega), if_pos (by omega), if_pos (by omega), if_neg c1, if_neg c2, if_neg c3, if_neg c4, this]
      exact hs _
    have c5b : ((o : Int) == (h : Int)) = false := beq_eq_false_iff_ne.2 (by omega)
    obtain ⟨kk, hkk⟩ := Int.eq_ofNat_of_zero_le (show 0 ≤ rd ord (((c + 1 : Nat) : Int) - 1) by omega)
    have hkn : kk < n := by omega
    have b1 := inv_bounds hn hf hI h hh
    have b2 := inv_bounds hn hf hI kk hkn
    have q1 := A.quota_bound hf h (by omega) (by omega)
    have q2 := A.quota_bound hf kk (by omega) (by omega)
    have w1 : wrap64 (rd held h - rd q h) = rd held h - rd q h := w64 (by omega)
    have w2 : wrap64 (rd q kk - rd held kk) = rd q kk - rd held kk := w64 (by omega)
    have ln := hI.sq.1
    have lr := hI.sq.2 h (by omega) (by omega)
    have hl := hI.hl
    obtain ⟨x, hx⟩ : ∃ x, x = mn (mn (rd held h - rd q h) (rd (rd_L1 now (h : Int)) (o : Int))) (rd q kk - rd held kk) := ⟨_, rfl⟩
    have hmn : ∀ a b : Int, mn a b ≤ a ∧ mn a b ≤ b := fun a b => by unfold mn; split <;> omega
    have x1 := hmn (mn (rd held h - rd q h) (rd (rd_L1 now (h : Int)) (o : Int))) (rd q kk - rd held kk)
    have x2 := hmn (rd held h - rd q h) (rd (rd_L1 now (h : Int)) (o : Int))
    rw [← hx] at x1
    by_cases c6 : x > 0
    · have hgo : A.get now (h : Int) (o : Int) = rd (rd_L1 now (h : Int)) (o : Int) := rfl
      have hG := hI.n0 h o hh ho
      have hGt := hI.nw h o hh ho
      have hrb := (A.valid_good (fit_valid hf)).2 h o (by omega) (by omega) (by omega) (by omega)
      have hsum : 0 ≤ isum (M h o) n := isum_nonneg (fun k hk => hI.m0 h o k hh ho hk)
      have hst := inv_step hn hf hI h o kk hh ho hkn (by omega) (by omega) (by omega) x c6 (by omega) (by rw [hgo]; omega) (by omega)
      obtain ⟨k, hk⟩ := ih _ _ _ (by omega) hst
      refine ⟨k + 2, ?_⟩
      have w3 : wrap64 (rd held h - x) = rd held h - x := w64 (by omega)
      have r2 : rd (held.set h (rd held h - x)) kk = rd held kk := by rw [rdset held h kk _ (by omega) (by omega), if_neg (by omega)]
      have w4 : wrap64 (rd held kk + x) = rd held kk + x := w64 (by omega)
      have w5 : wrap64 (rd (rd_L1 now (h : Int)) (o : Int) - x) = rd (rd_L1 now (h : Int)) (o : Int) - x := w64 (by omega)
      rw [kinkeeplaw35_QuotaFinds.l2, if_pos (by omega), if_pos (by omega), if_pos (by omega), if_neg c1, if_neg c2, if_neg c3, if_neg c4, c5b, kinkeeplaw35_QuotaFinds.j6, if_neg (by simp), hkk, if_pos (by omega), if_pos (by omega), if_pos (by omega), if_pos (by omega), if_pos (by omega), if_pos (by omega), if_pos (by omega), if_pos (by omega), if_pos (by omega), w1, w2, ← hx, if_pos c6, Option.bind_some, w3, Int.toNat_natCast, Int.toNat_natCast, r2, w4, w5, hw]
      exact hk
    · obtain ⟨k, hk⟩ := ih held now M (by omega) hI
      refine ⟨k + 2, ?_⟩
      rw [kinkeeplaw35_QuotaFinds.l2, if_pos (by omega), if_pos (by omega), if_pos (by omega), if_neg c1, if_neg c2, if_neg c3, if_neg c4, c5b, kinkeeplaw35_QuotaFinds.j6, if_neg (by simp), hkk, if_pos (by omega), if_pos (by omega), if_pos (by omega), if_pos (by omega), if_pos (by omega), if_pos (by omega), if_pos (by omega), if_pos (by omega), if_pos (by omega), w1, w2, ← hx, if_neg c6, hw]
      exact hk
theorem fin_l1 (hn12 : n ≤ 12) (hql : q.length = n) (hol : ord.length ≤ 12) (i h : Nat) (hi : i < ord.length) (hh : h < n) (hnext : ∀ held now M, Inv n t q held now M → ∃ k, kinkeeplaw35_QuotaFinds.l0 k t q ord (A.settleOut t q).2 held now ((i + 1 : Nat) : Int) = some true) :
    ∀ (m o : Nat) (held : List Int) (now : List (List Int)) (M : Nat → Nat → Nat → Int), n - o ≤ m → o ≤ n → Inv n t q held now M → ∃ k, kinkeeplaw35_QuotaFinds.l1 k t q ord (A.settleOut t q).2 held now (i : Int) (h : Int) (o : Int) = some true := by
  have hw : wrap64 ((i : Int) + 1) = ((i + 1 : Nat) : Int) := by rw [w64 (by omega)]; rfl
  have hwl : wrap64 ((ord.length : Int) - 1) = (ord.length : Int) - 1 := w64 (by omega)
  have ends : ∀ (o : Nat) (held : List Int) (now : List (List Int)) (M : Nat → Nat → Nat → Int), n ≤ o → Inv n t q held now M → ∃ k, kinkeeplaw35_QuotaFinds.l1 k t q ord (A.settleOut t q).2 held now (i : Int) (h : Int) (o : Int) = some true := by
    intro o held now M ho hI
    obtain ⟨k, hk⟩ := hnext held now M hI
    refine ⟨k + 1, ?_⟩
    rw [kinkeeplaw35_QuotaFinds.l1, if_neg (by omega), hw]
    exact hk
  intro m
  induction m with
  | zero => intro o held now M h1 h2 hI; exact ends o held now M (by omega) hI
  | succ m ih =>
    intro o held now M h1 h2 hI
    by_cases c : o < n
    · obtain ⟨k, hk⟩ := fin_l2 hn hf hn12 hql hol i h o hh c (fun held' now' M' hI' => ih (o + 1) held' now' M' (by omega) (by omega) hI') ord.length held now M (Nat.le_refl _) hI
      refine ⟨k + 1, ?_⟩
      rw [kinkeeplaw35_QuotaFinds.l1, if_pos (by omega), hwl]
      exact hk
    · exact ends o held now M (by omega) hI
theorem fin_l0 (hn12 : n ≤ 12) (hql : q.length = n) (hol : ord.length ≤ 12) : ∀ (m i : Nat) (held : List Int) (now : List (List Int)) (M : Nat → Nat → Nat → Int), ord.length - i ≤ m → i ≤ ord.length → Inv n t q held now M → ∃ k, kinkeeplaw35_QuotaFinds.l0 k t q ord (A.settleOut t q).2 held now (i : Int) = some true := by
  have ends : ∀ (i : Nat) (held : List Int) (now : List (List Int)) (M : Nat → Nat → Nat → Int), ord.length ≤ i → Inv n t q held now M → ∃ k, kinkeeplaw35_QuotaFinds.l0 k t q ord (A.settleOut t q).2 held now (i : Int) = some true := by
    intro i held now M hi hI
    obtain ⟨k, hk⟩ := fin_l3 hn hf hn12 hql hI n 0 (by omega) (by omega) (fun j hj => by omega)
    refine ⟨k + 1, ?_⟩
    rw [kinkeeplaw35_QuotaFinds.l0, if_neg (by omega)]
    exact hk
  intro m
  induction m with
  | zero => intro i held now M h1 h2 hI; exact ends i held now M (by omega) hI
  | succ m ih =>
    intro i held now M h1 h2 hI
    by_cases c : i < ord.length
    · by_cases c1 : rd ord i < 0
      · refine ⟨2, ?_⟩
        rw [kinkeeplaw35_QuotaFinds.l0, if_pos (by omega), if_pos (by omega), if_pos c1, kinkeeplaw35_QuotaFinds.j3, if_pos rfl]
      · by_cases c2 : rd ord i ≥ (t.length : Int)
        · refine ⟨2, ?_⟩
          rw [kinkeeplaw35_QuotaFinds.l0, if_pos (by omega), if_pos (by omega), if_neg c1, decide_eq_true c2, kinkeeplaw35_QuotaFinds.j3, if_pos rfl]
        · obtain ⟨h, hh⟩ := Int.eq_ofNat_of_zero_le (show 0 ≤ rd ord i by omega)
          obtain ⟨k, hk⟩ := fin_l1 hn hf hn12 hql hol i h c (by omega) (fun held' now' M' hI' => ih (i + 1) held' now' M' (by omega) (by omega) hI') n 0 held now M (by omega) (by omega) hI
          refine ⟨k + 2, ?_⟩
          rw [kinkeeplaw35_QuotaFinds.l0, if_pos (by omega), if_pos (by omega), if_neg c1, decide_eq_false c2, kinkeeplaw35_QuotaFinds.j3, if_neg (by simp), hh]
          exact hk
    · exact ends i held now M (by omega) hI
end
theorem finds_true (k : Nat) (t : List (List Int)) (q ord : List Int) : kinkeeplaw35_QuotaFinds.j0 (k + 1) t q ord true = some true := by
  rw [kinkeeplaw35_QuotaFinds.j0, if_pos rfl]
theorem quotaFinds (t : List (List Int)) (q ord : List Int) (_h0 : ∀ row ∈ t, ∀ x ∈ row, (Lit.int .i64 x).wf = true) (_h1 : ∀ x ∈ q, (Lit.int .i64 x).wf = true) (_h2 : ∀ x ∈ ord, (Lit.int .i64 x).wf = true) (hb : t.length ≤ 9223372036854775807) (_hb1 : q.length ≤ 9223372036854775807) (_hb2 : ord.length ≤ 9223372036854775807) :
    ∃ k, kinkeeplaw35_QuotaFinds.f k t q ord = some true := by
  obtain ⟨k1, e1⟩ := low_f t 12 1000 hb
  have m1 : ∀ k, k1 ≤ k → kinkeeplaw35_low.f k t 12 1000 = some (lowB t 1000 && decide ((t.length : Int) ≤ 12)) := fun k hk => more (f := fun k => kinkeeplaw35_low.f k t 12 1000) (fun k => kinkeeplaw35_low.mono t 12 1000 k) hk e1
  have unf : ∀ k, k1 ≤ k → kinkeeplaw35_QuotaFinds.f k t q ord = (if (lowB t 1000 && decide ((t.length : Int) ≤ 12)) = true then (if A.validT t = true then (if (q.length : Int) = (t.length : Int) then (kinkeeplaw35_QuotaFinds.j0 k t q ord (decide ((ord.length : Int) > 12))) else (kinkeeplaw35_QuotaFinds.j0 k t q ord true)) else (kinkeeplaw35_QuotaFinds.j0 k t q ord true)) else (kinkeeplaw35_QuotaFinds.j0 k t q ord true)) := fun k hk => by
    simp only [kinkeeplaw35_QuotaFinds.f, kinkeeplaw35_awake.f, Option.bind_some, if_true, quota_Valid.f, m1 k hk]
  cases hlow : (lowB t 1000 && decide ((t.length : Int) ≤ 12)) with
  | false => exact ⟨k1 + 1, by rw [unf _ (by omega), hlow, if_neg (by simp)]; exact finds_true k1 t q ord⟩
  | true =>
    cases hv : A.validT t with
    | false => exact ⟨k1 + 1, by rw [unf _ (by omega), hlow, hv, if_pos rfl, if_neg (by simp)]; exact finds_true k1 t q ord⟩
    | true =>
      by_cases hql : (q.length : Int) = (t.length : Int)
      · by_cases hol : (ord.length : Int) > 12
        · exact ⟨k1 + 1, by rw [unf _ (by omega), hlow, hv, if_pos rfl, if_pos rfl, if_pos hql, decide_eq_true hol]; exact finds_true k1 t q ord⟩
        · have h12 := (A.valid_sq hv).1
          have lh : (A.heldT t).length = t.length := by simp [A.heldT]
          have hH : A.heldOut t = (A.heldT t, 0) := by simp [A.heldOut, hv]
          by_cases hE : (A.settleOut t q).2 = 1
          · refine ⟨k1 + 1, ?_⟩
            rw [unf _ (by omega), hlow, hv, if_pos rfl, if_pos rfl, if_pos hql, decide_eq_false hol, kinkeeplaw35_QuotaFinds.j0, if_neg (by simp), quota_Settle.f, Option.bind_some, quota_Held.f, Option.bind_some, if_pos hE]
          · have hf : A.fitsT t q = true := by
              cases c : A.fitsT t q with
              | true => rfl
              | false => exact absurd (by rw [A.settleOut, c, if_neg (by simp)]) hE
            obtain ⟨k2, e2⟩ := clone_f t (by omega) (fun i hi => by rw [sq_of hv i hi]; omega)
            obtain ⟨k3, e3⟩ := fin_l0 (n := t.length) rfl hf (ord := ord) h12 (by omega) (by omega) ord.length 0 (A.heldT t) t _ (by omega) (by omega) (inv_start rfl hf)
            generalize hK : k1 + k2 + k3 = K
            have m2 := more (f := fun k => kinkeepref35_Clone.f k t) (fun k => kinkeepref35_Clone.mono t k) (show k2 ≤ K by omega) e2
            have m3 := more (f := fun k => kinkeeplaw35_QuotaFinds.l0 k t q ord (A.settleOut t q).2 (A.heldT t) t ((0 : Nat) : Int)) (fun k => (kinkeeplaw35_QuotaFinds.mono_l k).2.2.1 _ _ _ _ _ _ _) (show k3 ≤ K by omega) e3
            refine ⟨K + 2, ?_⟩
            rw [unf _ (by omega), hlow, hv, if_pos rfl, if_pos rfl, if_pos hql, decide_eq_false hol, kinkeeplaw35_QuotaFinds.j0, if_neg (by simp), quota_Settle.f, Option.bind_some, quota_Held.f, Option.bind_some, if_neg hE, hH, if_pos rfl, kinkeeplaw35_QuotaFinds.j1, if_neg (by simp [lh]), m2, Option.bind_some]
            exact m3
      · exact ⟨k1 + 1, by rw [unf _ (by omega), hlow, hv, if_pos rfl, if_pos rfl, if_neg hql]; exact finds_true k1 t q ord⟩
end Go.Proofs.Ytdljbmgknhbceaa.Pure
