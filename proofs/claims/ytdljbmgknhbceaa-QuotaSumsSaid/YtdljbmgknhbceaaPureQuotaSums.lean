import Derived.Test.YtdljbmgknhbceaaQx31
import Derived.Test.YtdljbmgknhbceaaP3
import Derived.Test.YtdljbmgknhbceaaP4
namespace Go.Proofs.Ytdljbmgknhbceaa.Pure
open Go.RowKit Go.Proofs.YtdljbmgknhbceaaW.PrintWords Go.Proofs.Ytdljbmgknhbceaa.Q Go.Proofs.Ytdljbmgknhbceaa.P
set_option linter.unusedVariables false
set_option linter.unusedSimpArgs false
set_option linter.unusedSectionVars false
def zrow (x y : List (List Int)) (i j : Nat) : List Int := (List.range j).map fun (o : Nat) => A.get x i o + A.get y i o
def ztab (x y : List (List Int)) (i : Nat) : List (List Int) := (List.range i).map fun h => zrow x y h x.length
theorem zrow_snoc (x y : List (List Int)) (i j : Nat) : zrow x y i (j + 1) = zrow x y i j ++ [A.get x i j + A.get y i j] := by simp [zrow, List.range_succ]
theorem ztab_snoc (x y : List (List Int)) (i : Nat) : ztab x y (i + 1) = ztab x y i ++ [zrow x y i x.length] := by simp [ztab, List.range_succ]
theorem rd_balT {t : List (List Int)} (hv : A.validT t = true) (d : Nat) (hd : d < t.length) : rd (A.balT t) d = bF t t.length 0 d := by
  rw [balT_eq hv, rd_eq _ d (by simpa using hd)]; simp
theorem zget (x y : List (List Int)) {n i j : Nat} (hn : n = x.length) (hi : i < n) (hj : j < n) : A.get (ztab x y n) i j = A.get x i j + A.get y i j := by
  subst hn
  have h1 : rd_L1 (ztab x y x.length) i = zrow x y i x.length := by rw [rd1_eq _ i (by simpa [ztab] using hi)]; simp [ztab]
  show rd (rd_L1 (ztab x y x.length) i) j = _
  rw [h1, rd_eq _ j (by simpa [zrow] using hj)]
  simp [zrow]
theorem isum_abs (f : Nat → Int) : ∀ n : Nat, (∀ i, i < n → -100000000000000 ≤ f i ∧ f i ≤ 100000000000000) → -(100000000000000 * (n : Int)) ≤ isum f n ∧ isum f n ≤ 100000000000000 * (n : Int) := by
  intro n
  induction n with
  | zero => intro _; simp [isum]
  | succ n ih =>
    intro h
    have h1 := ih (fun i hi => h i (by omega))
    have h2 := h n (by omega)
    rw [isum]
    omega
section
variable {x y : List (List Int)} (hx : A.validT x = true) (hy : A.validT y = true) (hl : y.length = x.length)
  (mx : ∀ i j : Nat, i < x.length → j < x.length → A.get x i j ≤ 549755813888) (my : ∀ i j : Nat, i < x.length → j < x.length → A.get y i j ≤ 549755813888)
include hx hy hl mx my
theorem zvalid : A.validT (ztab x y x.length) = true := by
  have h12 := (A.valid_sq hx).1
  have hG := A.valid_good hx
  have hH := A.valid_good hy
  have hzl : (ztab x y x.length).length = x.length := by simp [ztab]
  refine validT_of (by omega) (fun i hi => ?_) (fun i hi => ?_) (fun i j hi hj => ?_)
  · rw [rd1_eq _ i hi, hzl]; simp [ztab, zrow]
  · rw [hzl] at hi
    rw [zget x y rfl hi hi, valid_diag hx i hi, valid_diag hy i (by omega)]; rfl
  · rw [hzl] at hi hj
    rw [zget x y rfl hi hj]
    have b1 := g_bound hG h12 hi hj
    have b2 := g_bound hH (by omega) (show i < y.length by omega) (show j < y.length by omega)
    have := mx i j hi hj
    have := my i j hi hj
    omega
theorem zbF (d : Nat) (hd : d < x.length) : bF (ztab x y x.length) x.length 0 d = bF x x.length 0 d + bF y x.length 0 d := by
  have hzl : (ztab x y x.length).length = x.length := by simp [ztab]
  have e1 := bF_all (ztab x y x.length) d (by omega)
  have e2 := bF_all x d hd
  have e3 := bF_all y d (by omega)
  rw [hzl] at e1
  rw [hl] at e3
  rw [e1, e2, e3, isum_congr (fun i hi => zget x y rfl hi hd), isum_congr (fun i hi => zget x y rfl hd hi), isum_add (fun i => A.get x i d), isum_add (fun i => A.get x d i)]
  omega
omit mx my in
theorem sums_l2 (z : List (List Int)) (hz : A.validT z = true) (hzl : z.length = x.length) (hadd : ∀ d, d < x.length → bF z x.length 0 d = bF x x.length 0 d + bF y x.length 0 d) : ∀ (m d : Nat), x.length - d ≤ m → d ≤ x.length → ∃ k, kinkeeplaw35_QuotaSums.l2 k x (A.balT x) (A.balT y) (A.balT z) (isum (fun d => bF z x.length 0 d) d) (d : Int) = some true := by
  have h12 := (A.valid_sq hx).1
  have hG := A.valid_good hx
  have hH := A.valid_good hy
  have hK := A.valid_good hz
  have lx : (A.balT x).length = x.length := by simp [A.balT]
  have ly : (A.balT y).length = x.length := by simp [A.balT, hl]
  have lz : (A.balT z).length = x.length := by simp [A.balT, hzl]
  have bz : ∀ d, d < x.length → -100000000000000 ≤ bF z x.length 0 d ∧ bF z x.length 0 d ≤ 100000000000000 := fun d hd =>
    bF_bound hK (by omega) (Or.inr ⟨hzl.symm, rfl⟩) (Nat.zero_le _) (by omega)
  have ends : ∀ d, d = x.length → ∃ k, kinkeeplaw35_QuotaSums.l2 k x (A.balT x) (A.balT y) (A.balT z) (isum (fun d => bF z x.length 0 d) d) (d : Int) = some true := by
    rintro d rfl
    refine ⟨1, ?_⟩
    rw [kinkeeplaw35_QuotaSums.l2, if_neg (by omega)]
    have tot := bF_total z
    rw [hzl] at tot
    rw [tot]
    rfl
  intro m
  induction m with
  | zero => intro d h1 h2; exact ends d (by omega)
  | succ m ih =>
    intro d h1 h2
    by_cases h : d < x.length
    · obtain ⟨k, hk⟩ := ih (d + 1) (by omega) (by omega)
      have hw : wrap64 ((d : Int) + 1) = ((d + 1 : Nat) : Int) := by rw [w64 (by omega)]; rfl
      have i0 : (d : Int) < (x.length : Int) := by omega
      have i1 : (0 : Int) ≤ (d : Int) := by omega
      have i2 : (d : Int) < ((A.balT x).length : Int) := by rw [lx]; exact i0
      have i3 : (d : Int) < ((A.balT y).length : Int) := by rw [ly]; exact i0
      have i4 : (d : Int) < ((A.balT z).length : Int) := by rw [lz]; exact i0
      have r1 := rd_balT hx d h
      have r2 := rd_balT hy d (by rw [hl]; exact h)
      have r3 := rd_balT hz d (by rw [hzl]; exact h)
      rw [hl] at r2
      rw [hzl] at r3
      have add := hadd d h
      have bd := bz d h
      have sb := isum_abs (fun d => bF z x.length 0 d) d (fun i hi => bz i (Nat.lt_trans hi h))
      refine ⟨k + 1, ?_⟩
      have es : isum (fun d => bF z x.length 0 d) (d + 1) = isum (fun d => bF z x.length 0 d) d + bF z x.length 0 d := rfl
      rw [es] at hk
      rw [kinkeeplaw35_QuotaSums.l2, if_pos i0, if_pos i1, if_pos i2, if_pos i3, if_pos i4, r1, r2, r3, hw]
      clear r1 r2 r3 bz i0 i1 i2 i3 i4 ih ends hadd
      generalize isum (fun d => bF z x.length 0 d) d = S at sb hk ⊢
      generalize bF z x.length 0 d = Z at add bd hk ⊢
      generalize bF x x.length 0 d = X at add ⊢
      generalize bF y x.length 0 d = Y at add ⊢
      subst add
      have c1 : wrap64 (X + Y) = X + Y := w64 (by omega)
      have c2 : wrap64 (S + (X + Y)) = S + (X + Y) := w64 (by omega)
      rw [c1, if_pos rfl, c2]
      exact hk
    · exact ends d (by omega)
theorem sums_l1 (i : Nat) (hi : i < x.length) (hb : ∃ k, kinkeeplaw35_QuotaSums.l0 k x y (ztab x y (i + 1)) ((i + 1 : Nat) : Int) = some true) :
    ∀ (m j : Nat), x.length - j ≤ m → j ≤ x.length → ∃ k, kinkeeplaw35_QuotaSums.l1 k x y (ztab x y i) (i : Int) (zrow x y i j) (j : Int) = some true := by
  have h12 := (A.valid_sq hx).1
  have hG := A.valid_good hx
  have hH := A.valid_good hy
  have hwi : wrap64 ((i : Int) + 1) = ((i + 1 : Nat) : Int) := by rw [w64 (by omega)]; rfl
  have lt : (ztab x y i).length = i := by simp [ztab]
  have ends : ∀ j, j = x.length → ∃ k, kinkeeplaw35_QuotaSums.l1 k x y (ztab x y i) (i : Int) (zrow x y i j) (j : Int) = some true := by
    rintro j rfl
    obtain ⟨k, hk⟩ := hb
    refine ⟨k + 1, ?_⟩
    rw [kinkeeplaw35_QuotaSums.l1, if_neg (by omega), if_pos (by omega), hwi, ← ztab_snoc]
    exact hk
  intro m
  induction m with
  | zero => intro j h1 h2; exact ends j (by omega)
  | succ m ih =>
    intro j h1 h2
    by_cases h : j < x.length
    · obtain ⟨k, hk⟩ := ih (j + 1) (by omega) (by omega)
      have hwj : wrap64 ((j : Int) + 1) = ((j + 1 : Nat) : Int) := by rw [w64 (by omega)]; rfl
      have s1 := sq_of hx i hi
      have s2 := sq_of hy i (by omega)
      have lr : (zrow x y i j).length = j := by simp [zrow]
      have b1 := g_bound hG h12 hi h
      have b2 := g_bound hH (by omega) (show i < y.length by omega) (show j < y.length by omega)
      have e1 : rd (rd_L1 x i) j = A.get x i j := rfl
      have e2 : rd (rd_L1 y i) j = A.get y i j := rfl
      refine ⟨k + 1, ?_⟩
      rw [kinkeeplaw35_QuotaSums.l1, if_pos (by omega), if_pos (by omega), if_pos (by omega), if_pos (by omega), if_pos (by omega), if_pos (by omega), if_pos (by omega), if_pos (by omega), hwj, e1, e2, w64 (by omega), ← zrow_snoc]
      exact hk
    · exact ends j (by omega)
theorem sums_l0 : ∀ (m i : Nat), x.length - i ≤ m → i ≤ x.length → ∃ k, kinkeeplaw35_QuotaSums.l0 k x y (ztab x y i) (i : Int) = some true := by
  have h12 := (A.valid_sq hx).1
  have hz := zvalid hx hy hl mx my
  have hzl : (ztab x y x.length).length = x.length := by simp [ztab]
  have lx : (A.balT x).length = x.length := by simp [A.balT]
  have ly : (A.balT y).length = x.length := by simp [A.balT, hl]
  have lz : (A.balT (ztab x y x.length)).length = x.length := by simp [A.balT, hzl]
  have ends : ∀ i, i = x.length → ∃ k, kinkeeplaw35_QuotaSums.l0 k x y (ztab x y i) (i : Int) = some true := by
    rintro i rfl
    obtain ⟨k, hk⟩ := sums_l2 hx hy hl (ztab x y x.length) hz hzl (fun d hd => zbF hx hy hl mx my d hd) x.length 0 (by omega) (by omega)
    refine ⟨k + 2, ?_⟩
    rw [kinkeeplaw35_QuotaSums.l0, if_neg (by omega)]
    simp only [quota_Balance.f, Option.bind_some, A.balOut, hx, hy, hz, if_true]
    rw [if_pos (by omega), if_pos (by omega)]
    have c : (((A.balT (ztab x y x.length)).length : Int) != (x.length : Int)) = false := by simp [lz]
    rw [c, kinkeeplaw35_QuotaSums.j3, if_neg (by simp)]
    exact hk
  intro m
  induction m with
  | zero => intro i h1 h2; exact ends i (by omega)
  | succ m ih =>
    intro i h1 h2
    by_cases h : i < x.length
    · obtain ⟨k, hk⟩ := sums_l1 hx hy hl mx my i h (ih (i + 1) (by omega) (by omega)) x.length 0 (by omega) (by omega)
      refine ⟨k + 1, ?_⟩
      rw [kinkeeplaw35_QuotaSums.l0, if_pos (by omega)]
      exact hk
    · exact ends i (by omega)
end
theorem sums_true (x y : List (List Int)) (k : Nat) : kinkeeplaw35_QuotaSums.j0 (k + 1) x y true = some true := by
  rw [kinkeeplaw35_QuotaSums.j0, if_pos rfl]
theorem quotaSums (x y : List (List Int)) (_h0 : ∀ row ∈ x, ∀ n ∈ row, (Lit.int .i64 n).wf = true) (_h1 : ∀ row ∈ y, ∀ n ∈ row, (Lit.int .i64 n).wf = true) : ∃ k, kinkeeplaw35_QuotaSums.f k x y = some true := by
  have unf : ∀ k, kinkeeplaw35_QuotaSums.f k x y = (if A.validT x = true then (if A.validT y = true then (if (x.length : Int) = (y.length : Int) then ((kinkeeplaw35_low.f k x 12 549755813888).bind fun t304 => (if t304 = true then ((kinkeeplaw35_low.f k y 12 549755813888).bind fun t305 => (kinkeeplaw35_QuotaSums.j0 k x y (!t305))) else (kinkeeplaw35_QuotaSums.j0 k x y true))) else (kinkeeplaw35_QuotaSums.j0 k x y true)) else (kinkeeplaw35_QuotaSums.j0 k x y true)) else (kinkeeplaw35_QuotaSums.j0 k x y true)) := fun k => by
    simp only [kinkeeplaw35_QuotaSums.f, kinkeeplaw35_awake.f, Option.bind_some, if_true, quota_Valid.f]
  cases hx : A.validT x with
  | false => exact ⟨1, by rw [unf, hx, if_neg (by simp)]; exact sums_true x y 0⟩
  | true =>
    cases hy : A.validT y with
    | false => exact ⟨1, by rw [unf, hx, hy, if_pos rfl, if_neg (by simp)]; exact sums_true x y 0⟩
    | true =>
      by_cases hl : y.length = x.length
      · have h12 := (A.valid_sq hx).1
        obtain ⟨k1, e1⟩ := low_f x 12 549755813888 (by omega)
        obtain ⟨k2, e2⟩ := low_f y 12 549755813888 (by omega)
        have d1 : decide ((x.length : Int) ≤ 12) = true := decide_eq_true (by omega)
        have d2 : decide ((y.length : Int) ≤ 12) = true := by rw [hl]; exact d1
        rw [d1, Bool.and_true] at e1
        rw [d2, Bool.and_true] at e2
        have m1 : ∀ k, k1 ≤ k → kinkeeplaw35_low.f k x 12 549755813888 = some (lowB x 549755813888) := fun k hk => more (f := fun k => kinkeeplaw35_low.f k x 12 549755813888) (fun k => kinkeeplaw35_low.mono x 12 549755813888 k) hk e1
        have m2 : ∀ k, k2 ≤ k → kinkeeplaw35_low.f k y 12 549755813888 = some (lowB y 549755813888) := fun k hk => more (f := fun k => kinkeeplaw35_low.f k y 12 549755813888) (fun k => kinkeeplaw35_low.mono y 12 549755813888 k) hk e2
        cases l1 : lowB x 549755813888 with
        | false => exact ⟨k1 + 1, by rw [unf, hx, hy, if_pos rfl, if_pos rfl, if_pos (by omega), m1 _ (by omega), l1]; exact sums_true x y k1⟩
        | true =>
          cases l2 : lowB y 549755813888 with
          | false => exact ⟨k1 + k2 + 1, by rw [unf, hx, hy, if_pos rfl, if_pos rfl, if_pos (by omega), m1 _ (by omega), l1, Option.bind_some, if_pos rfl, m2 _ (by omega), l2]; exact sums_true x y (k1 + k2)⟩
          | true =>
            obtain ⟨k3, hk3⟩ := sums_l0 hx hy hl (fun i j hi hj => lowB_at l1 i j hi (by rw [sq_of hx i hi]; exact hj)) (fun i j hi hj => lowB_at l2 i j (by omega) (by rw [sq_of hy i (by omega)]; omega)) x.length 0 (by omega) (by omega)
            have hk3' := more (f := fun k => kinkeeplaw35_QuotaSums.l0 k x y (ztab x y 0) ((0 : Nat) : Int)) (fun k => (kinkeeplaw35_QuotaSums.mono_l k).2.1 x y _ _) (show k3 ≤ k1 + k2 + k3 by omega) hk3
            refine ⟨k1 + k2 + k3 + 1, ?_⟩
            rw [unf, hx, hy, if_pos rfl, if_pos rfl, if_pos (by omega), m1 _ (by omega), l1, Option.bind_some, if_pos rfl, m2 _ (by omega), l2, Option.bind_some]
            rw [kinkeeplaw35_QuotaSums.j0, if_neg (by simp)]
            exact hk3'
      · exact ⟨1, by rw [unf, hx, hy, if_pos rfl, if_pos rfl, if_neg (by omega)]; exact sums_true x y 0⟩
end Go.Proofs.Ytdljbmgknhbceaa.Pure
