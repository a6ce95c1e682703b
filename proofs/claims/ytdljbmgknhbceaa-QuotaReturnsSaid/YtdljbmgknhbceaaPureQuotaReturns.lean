import Derived.Test.YtdljbmgknhbceaaQx29
import Derived.Test.YtdljbmgknhbceaaPl
namespace Go.Proofs.Ytdljbmgknhbceaa.Pure
open Go.RowKit Go.Proofs.YtdljbmgknhbceaaW.PrintWords Go.Proofs.Ytdljbmgknhbceaa.Q Go.Proofs.Ytdljbmgknhbceaa.P
set_option linter.unusedVariables false
set_option linter.unusedSimpArgs false
theorem one_bad (t : List (List Int)) (m : S29) (h : (A.applyOut t [m]).2 ≠ 0) : (A.applyOut t [m]).1 = [] := by
  unfold A.applyOut at h ⊢
  split
  · rename_i hh
    rw [if_pos hh] at h
    unfold A.applyGo at h ⊢
    split
    · rfl
    · rename_i c1
      rw [if_neg c1] at h
      split
      · rfl
      · rename_i c2
        rw [if_neg c2] at h
        exact absurd rfl h
  · rfl
theorem one_ok (t : List (List Int)) (m : S29) (h : (A.applyOut t [m]).2 = 0) : A.validT t = true ∧ A.mvOk t.length m = true ∧ m.f3 ≤ A.get t m.f0 m.f2 ∧ A.get t m.f1 m.f2 + m.f3 ≤ 1099511627776 := by
  unfold A.applyOut at h
  split at h
  · rename_i hh
    unfold A.applyGo at h
    split at h
    · cases h
    · split at h
      · cases h
      · rename_i c1 c2
        have := hh.2
        simp [A.badMoves] at this
        exact ⟨hh.1, this, by omega, by omega⟩
  · cases h
theorem one_eq {t : List (List Int)} {m : S29} (h1 : A.validT t = true) (h2 : A.mvOk t.length m = true) (h3 : m.f3 ≤ A.get t m.f0 m.f2) (h4 : A.get t m.f1 m.f2 + m.f3 ≤ 1099511627776) : A.applyOut t [m] = (A.mv t m, 0) := by
  unfold A.applyOut
  rw [if_pos ⟨h1, by simp [A.badMoves, h2]⟩, A.applyGo, if_neg (by omega), if_neg (by omega), A.applyGo]
theorem ret_l0 {t : List (List Int)} {a b : List Int} {f g o : Nat} {x : Int} (hn : t.length ≤ 12) (la : a.length = t.length) (lb : b.length = t.length) (x0 : 1 ≤ x) (x1 : x ≤ 1099511627776)
    (hb : ∀ d : Nat, d < t.length → rd b d = rd a d + (if d = f then x else 0) - (if d = g then x else 0)) (ha : ∀ d : Nat, d < t.length → -100000000000000 ≤ rd a d ∧ rd a d ≤ 100000000000000) :
    ∀ (m d : Nat), t.length - d ≤ m → d ≤ t.length → ∃ k, kinkeeplaw35_QuotaReturns.l0 k t a b (d : Int) (f : Int) (g : Int) (o : Int) x = some true := by
  have ends : ∀ d : Nat, t.length ≤ d → ∃ k, kinkeeplaw35_QuotaReturns.l0 k t a b (d : Int) (f : Int) (g : Int) (o : Int) x = some true := by
    intro d hd
    refine ⟨1, ?_⟩
    rw [kinkeeplaw35_QuotaReturns.l0, if_neg (by omega)]
  intro m
  induction m with
  | zero => intro d h1 h2; exact ends d (by omega)
  | succ m ih =>
    intro d h1 h2
    by_cases h : d < t.length
    · have hw : wrap64 ((d : Int) + 1) = ((d + 1 : Nat) : Int) := by rw [w64 (by omega)]; rfl
      obtain ⟨k, hk⟩ := ih (d + 1) (by omega) (by omega)
      have e := hb d h
      have hr := ha d h
      refine ⟨k + 2, ?_⟩
      rw [kinkeeplaw35_QuotaReturns.l0, if_pos (by omega), if_pos (by omega), if_pos (by omega)]
      by_cases c1 : d = f
      · rw [if_pos (by omega), w64 (by omega), kinkeeplaw35_QuotaReturns.j2]
        rw [if_pos c1] at e
        by_cases c2 : d = g
        · rw [if_pos c2] at e
          rw [if_pos (by omega), if_pos (by omega), if_pos (by omega), w64 (by omega), if_pos (by omega), hw]
          exact hk
        · rw [if_neg c2] at e
          rw [if_neg (by omega), if_pos (by omega), if_pos (by omega), if_pos (by omega), hw]
          exact hk
      · rw [if_neg (by omega), kinkeeplaw35_QuotaReturns.j2]
        rw [if_neg c1] at e
        by_cases c2 : d = g
        · rw [if_pos c2] at e
          rw [if_pos (by omega), if_pos (by omega), if_pos (by omega), w64 (by omega), if_pos (by omega), hw]
          exact hk
        · rw [if_neg c2] at e
          rw [if_neg (by omega), if_pos (by omega), if_pos (by omega), if_pos (by omega), hw]
          exact hk
    · exact ends d (by omega)
theorem quotaReturns (t : List (List Int)) (F G O x : Int) (_h0 : ∀ row ∈ t, ∀ x ∈ row, (Lit.int .i64 x).wf = true) : ∃ k, kinkeeplaw35_QuotaReturns.f k t F G O x = some true := by
  by_cases hl : (t.length : Int) > 12
  · refine ⟨1, ?_⟩
    simp only [kinkeeplaw35_QuotaReturns.f, kinkeeplaw35_awake.f, Option.bind_some, if_true, if_pos hl]
  · by_cases hA : (A.applyOut t [(⟨F, G, O, x⟩ : S29)]).2 = 0
    · obtain ⟨hv, hm, hb, hc⟩ := one_ok t _ hA
      have hE := one_eq hv hm hb hc
      have hm' := hm
      simp only [A.mvOk, A.moveOk, A.inI, Bool.and_eq_true, Bool.not_eq_true', beq_eq_false_iff_ne, decide_eq_true_eq] at hm
      obtain ⟨h1, ⟨f0, f1⟩, ⟨g0, g1⟩, ⟨o0, o1⟩, h2, h3, x0, x1⟩ := hm
      obtain ⟨f, rfl⟩ := Int.eq_ofNat_of_zero_le f0
      obtain ⟨g, rfl⟩ := Int.eq_ofNat_of_zero_le g0
      obtain ⟨o, rfl⟩ := Int.eq_ofNat_of_zero_le o0
      simp only at hb hc
      have hf : f < t.length := by omega
      have hg : g < t.length := by omega
      have ho : o < t.length := by omega
      have n1 : f ≠ g := fun e => h1 (by rw [e])
      have n2 : o ≠ f := fun e => h2 (by rw [e])
      have n3 : o ≠ g := fun e => h3 (by rw [e])
      have hG := A.valid_good hv
      have hgood := mv_good hv rfl hf hg ho n1 n2 n3 x0 x1 hb hc
      have hvc := mv_valid hv rfl hf hg ho n1 n2 n3 x0 x1 hb hc
      have hget := mv_get hv rfl hf hg ho n1 n2 n3 x0 x1 hb hc
      have hbF := mv_bF hv rfl hf hg ho n1 n2 n3 x0 x1 hb hc
      have hcl : (A.mv t ⟨f, g, o, x⟩).length = t.length := hgood.1.1
      have bt := hG.2 f o (by omega) (by omega) (by omega) (by omega)
      have bt2 := hG.2 g o (by omega) (by omega) (by omega) (by omega)
      have gg : A.get (A.mv t ⟨f, g, o, x⟩) g o = A.get t g o + x := by rw [hget g o, if_pos ⟨rfl, rfl⟩, if_neg (fun e => n1 e.1.symm)]; omega
      have gf : A.get (A.mv t ⟨f, g, o, x⟩) f o = A.get t f o - x := by rw [hget f o, if_neg (fun e => n1 e.1), if_pos ⟨rfl, rfl⟩]; omega
      have hE2 : A.applyOut (A.mv t ⟨f, g, o, x⟩) [(⟨g, f, o, x⟩ : S29)] = (A.mv (A.mv t ⟨f, g, o, x⟩) ⟨g, f, o, x⟩, 0) := by
        refine one_eq hvc ?_ ?_ ?_
        · rw [hcl]; exact mv_ok hvc hcl hg hf ho n1.symm n3 n2 x0 x1 (by omega) (by omega)
        · simp only; omega
        · simp only; omega
      have hback : A.mv (A.mv t ⟨f, g, o, x⟩) ⟨g, f, o, x⟩ = t := by
        refine tab_ext (hgood.1.mv _) hG.1 (fun i j hi hj => ?_)
        rw [mv_get hvc hcl hg hf ho n1.symm n3 n2 x0 x1 (by omega) (by omega), hget]
        omega
      obtain ⟨k1, e1⟩ := same_f t t (by omega) (fun i hi => by rw [sq_of hv i hi]; omega)
      have lb1 : (A.balT t).length = t.length := by simp [A.balT]
      have lb2 : (A.balT (A.mv t ⟨f, g, o, x⟩)).length = t.length := by simp [A.balT, hcl]
      obtain ⟨k2, e2⟩ := ret_l0 (t := t) (a := A.balT t) (b := A.balT (A.mv t ⟨f, g, o, x⟩)) (f := f) (g := g) (o := o) (x := x) (by omega) lb1 lb2 x0 x1
        (fun d hd => by
          have r2 := rd_balT hvc d (by omega)
          rw [hcl] at r2
          rw [rd_balT hv d hd, r2]; exact hbF d hd)
        (fun d hd => by rw [rd_balT hv d hd]; exact bF_bound hG (by omega) (Or.inr ⟨rfl, rfl⟩) (Nat.zero_le _) hd) t.length 0 (by omega) (by omega)
      have m1 := more (f := fun k => kinkeepref35_Same.f k t t) (fun k => kinkeepref35_Same.mono _ _ k) (show k1 ≤ k1 + k2 + 1 by omega) e1
      have m2 := more (f := fun k => kinkeeplaw35_QuotaReturns.l0 k t (A.balT t) (A.balT (A.mv t ⟨f, g, o, x⟩)) ((0 : Nat) : Int) f g o x) (fun k => (kinkeeplaw35_QuotaReturns.mono_l k).2.1 _ _ _ _ _ _ _ _) (show k2 ≤ k1 + k2 by omega) e2
      refine ⟨k1 + k2 + 1, ?_⟩
      simp only [kinkeeplaw35_QuotaReturns.f, kinkeeplaw35_awake.f, Option.bind_some, if_true, if_neg hl, quota_Apply.f, hE, hE2, hback, quota_Balance.f, A.balOut, hv, hvc, m1, decide_true]
      rw [if_pos (by omega), kinkeeplaw35_QuotaReturns.j0, if_neg (by simp [lb2])]
      exact m2
    · refine ⟨1, ?_⟩
      have hE := one_bad t _ hA
      simp only [kinkeeplaw35_QuotaReturns.f, kinkeeplaw35_awake.f, Option.bind_some, if_true, if_neg hl, quota_Apply.f, if_neg hA, hE]
      rfl
end Go.Proofs.Ytdljbmgknhbceaa.Pure
