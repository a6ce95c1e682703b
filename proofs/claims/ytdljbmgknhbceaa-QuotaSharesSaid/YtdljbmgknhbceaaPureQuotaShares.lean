import Derived.Test.YtdljbmgknhbceaaQx58
import Derived.Test.YtdljbmgknhbceaaPl
namespace Go.Proofs.Ytdljbmgknhbceaa.Pure
open Go.RowKit Go.Proofs.YtdljbmgknhbceaaW.PrintWords Go.Proofs.Ytdljbmgknhbceaa.Q Go.Proofs.Ytdljbmgknhbceaa.P
set_option linter.unusedVariables false
set_option linter.unusedSimpArgs false
theorem gcd_both : ∀ (m y x : Nat), y ≤ m → (0 < x ∨ 0 < y) → ∃ g : Int, g ≠ 0 ∧ (∀ a b : Int, ∃ k, kinkeepref35_Fraction.l0 k a b x y = some (wrap64 (Int.tdiv a g), wrap64 (Int.tdiv b g))) ∧
    (∀ (q : List Int) (acc : List S58) (d : Nat) (h : Int) (held : List Int) (n : Int) (r : List S58 × Int), d < q.length → acc.length ≤ 1000 → (∃ k, quota_Share.l0 k q (acc ++ [(⟨wrap64 (Int.tdiv h g), wrap64 (Int.tdiv (rd q d) g)⟩ : S58)]) held n (wrap64 ((d : Int) + 1)) = some r) →
      ∃ k, quota_Share.l1 k q acc (d : Int) h x y held n (d : Int) = some r) := by
  intro m
  have base : ∀ x : Nat, 0 < x → ∃ g : Int, g ≠ 0 ∧ (∀ a b : Int, ∃ k, kinkeepref35_Fraction.l0 k a b x 0 = some (wrap64 (Int.tdiv a g), wrap64 (Int.tdiv b g))) ∧
    (∀ (q : List Int) (acc : List S58) (d : Nat) (h : Int) (held : List Int) (n : Int) (r : List S58 × Int), d < q.length → acc.length ≤ 1000 → (∃ k, quota_Share.l0 k q (acc ++ [(⟨wrap64 (Int.tdiv h g), wrap64 (Int.tdiv (rd q d) g)⟩ : S58)]) held n (wrap64 ((d : Int) + 1)) = some r) →
      ∃ k, quota_Share.l1 k q acc (d : Int) h x 0 held n (d : Int) = some r) := by
    intro x hx
    refine ⟨x, by omega, fun a b => ⟨1, ?_⟩, fun q acc d h held n r hd ha ⟨k, hk⟩ => ⟨k + 1, ?_⟩⟩
    · rw [kinkeepref35_Fraction.l0, if_neg (by omega), if_neg (by omega)]
    · rw [quota_Share.l1, if_neg (by omega), if_neg (by omega), if_pos (by omega), if_pos (by omega), if_pos (by omega)]
      exact hk
  induction m with
  | zero =>
    intro y x hy h
    obtain rfl : y = 0 := by omega
    exact base x (by omega)
  | succ m ih =>
    intro y x hy h
    by_cases h0 : y = 0
    · subst h0
      exact base x (by omega)
    · have hlt := Nat.mod_lt x (show 0 < y by omega)
      obtain ⟨g, hg, h1, h2⟩ := ih (x % y) y (by omega) (Or.inl (by omega))
      have e : Int.tmod (x : Int) (y : Int) = ((x % y : Nat) : Int) := rfl
      refine ⟨g, hg, fun a b => ?_, fun q acc d h held n r hd ha hk => ?_⟩
      · obtain ⟨k, hk⟩ := h1 a b
        refine ⟨k + 1, ?_⟩
        rw [kinkeepref35_Fraction.l0, if_pos (by omega), if_neg (by omega), e]
        exact hk
      · obtain ⟨k, hk⟩ := h2 q acc d h held n r hd ha hk
        refine ⟨k + 1, ?_⟩
        rw [quota_Share.l1, if_pos (by omega), if_neg (by omega), e]
        exact hk
theorem share_both (t : List (List Int)) (q held : List Int) (ht : t.length ≤ 14) (hq : q.length = t.length) (hh : held.length = t.length) (hq0 : ∀ d : Nat, d < t.length → 0 ≤ rd q d) (hh0 : ∀ d : Nat, d < t.length → 0 ≤ rd held d) :
    ∀ (m d : Nat) (acc : List S58), t.length - d ≤ m → d ≤ t.length → acc.length = d → ∃ r : List S58 × Bool, (∃ k, kinkeepref35_Share.l0 k t q held acc (d : Int) = some r) ∧ (∃ k, quota_Share.l0 k q acc held (t.length : Int) (d : Int) = some (if r.2 = true then (r.1, 0) else ([], 6))) ∧ r.1.length ≤ 14 := by
  have ends : ∀ (d : Nat) (acc : List S58), d = t.length → acc.length = d → ∃ r : List S58 × Bool, (∃ k, kinkeepref35_Share.l0 k t q held acc (d : Int) = some r) ∧ (∃ k, quota_Share.l0 k q acc held (t.length : Int) (d : Int) = some (if r.2 = true then (r.1, 0) else ([], 6))) ∧ r.1.length ≤ 14 := by
    intro d acc hd ha
    refine ⟨(acc, true), ⟨1, ?_⟩, ⟨1, ?_⟩, by simp only; omega⟩
    · rw [kinkeepref35_Share.l0, if_neg (by omega)]
    · rw [quota_Share.l0, if_neg (by omega)]; rfl
  intro m
  induction m with
  | zero => intro d acc h1 h2 h3; exact ends d acc (by omega) h3
  | succ m ih =>
    intro d acc h1 h2 h3
    by_cases h : d < t.length
    · have hw : wrap64 ((d : Int) + 1) = ((d + 1 : Nat) : Int) := by rw [w64 (by omega)]; rfl
      have c1 := hq0 d h
      have c2 := hh0 d h
      by_cases z : rd held d = 0
      · obtain ⟨r, ⟨k1, e1⟩, ⟨k2, e2⟩, e3⟩ := ih (d + 1) (acc ++ [(⟨0, 1⟩ : S58)]) (by omega) (by omega) (by simp [h3])
        refine ⟨r, ⟨k1 + 1, ?_⟩, ⟨k2 + 2, ?_⟩, e3⟩
        · rw [kinkeepref35_Share.l0, if_pos (by omega), if_pos (by omega), if_pos (by omega), if_pos z, if_pos (by omega), hw]
          exact e1
        · rw [quota_Share.l0, if_pos (by omega), if_pos (by omega), if_pos (by omega), if_neg (by omega), quota_Share.j1, if_neg (by simp), if_pos z, if_pos (by omega), hw]
          exact e2
      · by_cases zq : rd q d = 0
        · refine ⟨([], false), ⟨1, ?_⟩, ⟨2, ?_⟩, by simp⟩
          · rw [kinkeepref35_Share.l0, if_pos (by omega), if_pos (by omega), if_pos (by omega), if_neg z, if_pos (by omega), if_pos zq]
          · have : (rd q d == 0) = true := by simp [zq]
            rw [quota_Share.l0, if_pos (by omega), if_pos (by omega), if_pos (by omega), if_pos (by omega), if_pos (by omega), this, quota_Share.j1, if_pos rfl]
            rfl
        · obtain ⟨a, ha⟩ := Int.eq_ofNat_of_zero_le c2
          obtain ⟨b, hb⟩ := Int.eq_ofNat_of_zero_le c1
          obtain ⟨g, hg, hf, hl1⟩ := gcd_both b b a (Nat.le_refl _) (Or.inl (by omega))
          obtain ⟨k0, e0⟩ := hf (rd held d) (rd q d)
          obtain ⟨r, ⟨k1, e1⟩, ⟨k2, e2⟩, e3⟩ := ih (d + 1) (acc ++ [(⟨wrap64 (Int.tdiv (rd held d) g), wrap64 (Int.tdiv (rd q d) g)⟩ : S58)]) (by omega) (by omega) (by simp [h3])
          obtain ⟨k3, e4⟩ := hl1 q acc d (rd held d) held t.length _ (by omega) (by omega) ⟨k2, by rw [hw]; exact e2⟩
          have m0 := more (f := fun k => kinkeepref35_Fraction.l0 k (rd held d) (rd q d) a b) (fun k => kinkeepref35_Fraction.mono_l k _ _ _ _) (show k0 ≤ k0 + k1 by omega) e0
          have m1 := more (f := fun k => kinkeepref35_Share.l0 k t q held (acc ++ [(⟨wrap64 (Int.tdiv (rd held d) g), wrap64 (Int.tdiv (rd q d) g)⟩ : S58)]) ((d + 1 : Nat) : Int)) (fun k => kinkeepref35_Share.mono_l k _ _ _ _ _) (show k1 ≤ k0 + k1 by omega) e1
          refine ⟨r, ⟨k0 + k1 + 1, ?_⟩, ⟨k3 + 2, ?_⟩, e3⟩
          · rw [kinkeepref35_Share.l0, if_pos (by omega), if_pos (by omega), if_pos (by omega), if_neg z, if_pos (by omega), if_neg zq, kinkeepref35_Fraction.f]
            rw [← ha, ← hb] at m0
            rw [m0, Option.bind_some, if_pos (by omega), hw]
            exact m1
          · have : (rd q d == 0) = false := by simp [zq]
            rw [quota_Share.l0, if_pos (by omega), if_pos (by omega), if_pos (by omega), if_pos (by omega), if_pos (by omega), this, quota_Share.j1, if_neg (by simp), if_neg z, if_pos (by omega), if_pos (by omega)]
            rw [← ha, ← hb] at e4
            exact e4
    · exact ends d acc (by omega) h3
theorem cmp_l0 (l : List S58) (hl : l.length ≤ 1000) : ∀ (m i : Nat), l.length - i ≤ m → i ≤ l.length → ∃ k, kinkeeplaw35_QuotaShares.l0 k l l (i : Int) = some true := by
  have ends : ∀ i : Nat, l.length ≤ i → ∃ k, kinkeeplaw35_QuotaShares.l0 k l l (i : Int) = some true := by
    intro i hi
    exact ⟨1, by rw [kinkeeplaw35_QuotaShares.l0, if_neg (by omega)]⟩
  intro m
  induction m with
  | zero => intro i h1 h2; exact ends i (by omega)
  | succ m ih =>
    intro i h1 h2
    by_cases h : i < l.length
    · have hw : wrap64 ((i : Int) + 1) = ((i + 1 : Nat) : Int) := by rw [w64 (by omega)]; rfl
      obtain ⟨k, hk⟩ := ih (i + 1) (by omega) (by omega)
      refine ⟨k + 1, ?_⟩
      rw [kinkeeplaw35_QuotaShares.l0, if_pos (by omega), if_pos (by omega), if_pos (by omega), if_neg (by simp), hw]
      exact hk
    · exact ends i (by omega)
theorem shares_bad (k : Nat) (t : List (List Int)) (q : List Int) : kinkeeplaw35_QuotaShares.j1 (k + 1) t q [] 1 true = some true := by
  rw [kinkeeplaw35_QuotaShares.j1, if_pos rfl]; rfl
theorem quotaShares (t : List (List Int)) (q : List Int) (_h0 : ∀ row ∈ t, ∀ x ∈ row, (Lit.int .i64 x).wf = true) (_h1 : ∀ x ∈ q, (Lit.int .i64 x).wf = true) : ∃ k, kinkeeplaw35_QuotaShares.f k t q = some true := by
  by_cases hl : (t.length : Int) > 14
  · refine ⟨1, ?_⟩
    simp only [kinkeeplaw35_QuotaShares.f, kinkeeplaw35_awake.f, Option.bind_some, if_true, if_pos hl, kinkeeplaw35_QuotaShares.j0]
  · by_cases hq : (q.length : Int) > 20
    · refine ⟨1, ?_⟩
      simp only [kinkeeplaw35_QuotaShares.f, kinkeeplaw35_awake.f, Option.bind_some, if_true, if_neg hl, decide_eq_true hq, kinkeeplaw35_QuotaShares.j0]
    · have main : ∃ k, kinkeeplaw35_QuotaShares.j0 k t q false = some true := by
        obtain ⟨k1, e1⟩ := valid_f t (by omega)
        cases hf : A.fitsT t q with
        | false =>
          have hs : ∀ k, quota_Share.f k t q = some ([], 1) := fun k => by simp [quota_Share.f, quota_fits.f, hf]
          refine ⟨k1 + 100, ?_⟩
          have m1 := more (f := fun k => kinkeepref35_Valid.f k t) (fun k => kinkeepref35_Valid.mono t k) (show k1 ≤ k1 + 99 by omega) e1
          rw [kinkeeplaw35_QuotaShares.j0, if_neg (by simp), hs, Option.bind_some, m1, Option.bind_some]
          cases hv : A.validT t with
          | false => rw [if_neg (by simp)]; exact shares_bad (k1 + 98) t q
          | true =>
            have m4 := quotas_f t q (by omega) (k1 + 99) (by omega)
            have hQ : (!(A.badAny q) && decide (q.length = t.length)) = false := by
              rw [A.fitsT, hv, Bool.true_and, Bool.and_comm] at hf
              exact hf
            rw [hQ] at m4
            rw [if_pos rfl, m4, Option.bind_some]
            exact shares_bad (k1 + 98) t q
        | true =>
          have hfit := hf
          rw [A.fitsT, Bool.and_eq_true, Bool.and_eq_true, decide_eq_true_eq] at hf
          obtain ⟨hv, hql, hbad⟩ := hf
          have hG := A.valid_good hv
          have h12 := (A.valid_sq hv).1
          have hQ : (!(A.badAny q) && decide (q.length = t.length)) = true := by rw [hbad, decide_eq_true hql]; rfl
          have lh : (A.heldT t).length = t.length := by simp [A.heldT]
          have hqb := (bad_iff q).1 (by simpa using hbad)
          obtain ⟨r, ⟨k2, e2⟩, ⟨k3, e3⟩, e4⟩ := share_both t q (A.heldT t) (by omega) hql lh (fun d hd => (hqb d (by omega)).1) (fun d hd => by
            rw [A.rd_held t d hd, wsum_full _ (by rw [sq_of hv d hd]; omega) (fun i hi => g_bound hG h12 hd (by rw [← sq_of hv d hd]; exact hi))]
            exact (isum_bound _ 1099511627776 _ (fun i hi => g_bound hG h12 hd (by rw [← sq_of hv d hd]; exact hi))).1) t.length 0 [] (by omega) (by omega) rfl
          obtain ⟨k4, e5⟩ := held_f t hv
          obtain ⟨k5, e6⟩ := cmp_l0 r.1 (by omega) r.1.length 0 (by omega) (by omega)
          generalize hK : k1 + k2 + k3 + k4 + k5 + 100 = K
          have m1 := more (f := fun k => kinkeepref35_Valid.f k t) (fun k => kinkeepref35_Valid.mono t k) (show k1 ≤ K + 2 by omega) e1
          have m2 := more (f := fun k => kinkeepref35_Share.l0 k t q (A.heldT t) [] ((0 : Nat) : Int)) (fun k => kinkeepref35_Share.mono_l k _ _ _ _ _) (show k2 ≤ K + 1 by omega) e2
          have m3 := more (f := fun k => quota_Share.l0 k q [] (A.heldT t) (t.length : Int) ((0 : Nat) : Int)) (fun k => (quota_Share.mono_l k).1 _ _ _ _ _) (show k3 ≤ K + 2 by omega) e3
          have m4 := quotas_f t q (by omega) (K + 2) (by omega)
          have m5 := more (f := fun k => kinkeepref35_Held.f k t) (fun k => kinkeepref35_Held.mono t k) (show k4 ≤ K + 1 by omega) e5
          have m6 := more (f := fun k => kinkeeplaw35_QuotaShares.l0 k r.1 r.1 ((0 : Nat) : Int)) (fun k => (kinkeeplaw35_QuotaShares.mono_l k).2.2.2 _ _ _) (show k5 ≤ K by omega) e6
          rw [hQ] at m4
          have hS : quota_Share.f (K + 2) t q = some (if r.2 = true then (r.1, 0) else ([], 6)) := by
            rw [quota_Share.f, quota_fits.f, hfit, Option.bind_some, if_pos rfl, quota_held.f, if_pos (by omega), Option.bind_some, lh]
            exact m3
          have hR : kinkeepref35_Share.f (K + 1) t q = some r := by
            rw [kinkeepref35_Share.f, m5, Option.bind_some]
            exact m2
          refine ⟨K + 3, ?_⟩
          rw [kinkeeplaw35_QuotaShares.j0, if_neg (by simp), hS, Option.bind_some, m1, hv, Option.bind_some, if_pos rfl, m4, Option.bind_some, kinkeeplaw35_QuotaShares.j1, if_neg (by simp), hR, Option.bind_some]
          obtain ⟨l, b⟩ := r
          cases b with
          | false => rfl
          | true =>
            simp only [if_true]
            have : ((l.length : Int) != (l.length : Int)) = false := by simp
            rw [this, kinkeeplaw35_QuotaShares.j2, if_neg (by simp)]
            exact m6
      obtain ⟨k, hk⟩ := main
      refine ⟨k, ?_⟩
      simp only [kinkeeplaw35_QuotaShares.f, kinkeeplaw35_awake.f, Option.bind_some, if_true, if_neg hl, decide_eq_false hq]
      exact hk
end Go.Proofs.Ytdljbmgknhbceaa.Pure
