import Derived.Test.YtdljbmgknhbceaaMh
namespace Go.Proofs.Ytdljbmgknhbceaa.P
open Go.RowKit Go.Proofs.YtdljbmgknhbceaaW.PrintWords Go.Proofs.Ytdljbmgknhbceaa.Q
set_option linter.unusedVariables false
set_option linter.unusedSimpArgs false

/-! ### the relief, applied -/
theorem held_isum {t : List (List Int)} (hv : A.validT t = true) (d : Nat) (hd : d < t.length) : rd (A.heldT t) d = isum (fun j => A.get t d j) t.length := by
  have hG := A.valid_good hv
  have h12 := (A.valid_sq hv).1
  rw [A.rd_held t d hd, wsum_full _ (by rw [sq_of hv d hd]; omega) (fun i hi => g_bound hG h12 hd (by rw [← sq_of hv d hd]; exact hi)), sq_of hv d hd]
  rfl
theorem fits_facts {t : List (List Int)} {q : List Int} (hf : A.fitsT t q = true) (hs : (A.settleOut t q).2 = 0) (hlow : ∀ i j : Nat, i < t.length → j < t.length → A.get t i j ≤ 1000) :
    ∃ c, A.applyOut t (A.settleOut t q).1 = (c, 0) ∧ A.validT c = true ∧ c.length = t.length ∧ (∀ d : Nat, d < t.length → (rd q d < rd (A.heldT t) d → rd (A.heldT c) d = rd q d) ∧ (¬ rd q d < rd (A.heldT t) d → rd (A.heldT c) d ≤ rd q d ∧ rd (A.heldT t) d ≤ rd (A.heldT c) d)) ∧ (A.settleOut t q).1.Pairwise ltM := by
  have hv := fit_valid hf
  have hG := A.valid_good hv
  have h12 := (A.valid_sq hv).1
  obtain ⟨B, b0, bz, h1, h2, h3, h4, h5, h6, h7⟩ := fixed hf hs
  have gs : ∀ i j : Nat, i < t.length → j < t.length → gsum (A.settleOut t q).1 i j = isum (B i j) t.length := fun i j hi hj => (h6 i j hi hj).symm
  have ts : ∀ i j : Nat, i < t.length → j < t.length → tsum (A.settleOut t q).1 i j = isum (fun f => B f j i) t.length := fun i j hi hj => (h7 i j hi hj).symm
  have small : ∀ f o k, f < t.length → o < t.length → k < t.length → B f o k ≤ A.get t f o := fun f o k a b c => by
    have := isum_one (f := B f o) k c (fun k _ => b0 f o k)
    have := h1 f o a b
    omega
  have mok : ∀ m ∈ (A.settleOut t q).1, A.mvOk t.length m = true := fun m hm => by
    obtain ⟨f, o, k, a1, a2, a3, a4, a5, rfl⟩ := h4 m hm
    obtain ⟨_, c1, c2, c3, _⟩ := a4
    have b1 := small f o k a1 a2 a3
    have b2 := hG.2 f o (by omega) (by omega) (by omega) (by omega)
    show A.moveOk (t.length : Int) (f : Int) (k : Int) (o : Int) (B f o k) = true
    simp only [A.moveOk, A.inI, Bool.and_eq_true, Bool.not_eq_true', beq_eq_false_iff_ne, decide_eq_true_eq]
    exact ⟨by omega, ⟨by omega, by omega⟩, ⟨by omega, by omega⟩, ⟨by omega, by omega⟩, by omega, by omega, by omega, by omega⟩
  have tsb : ∀ i j : Nat, i < t.length → j < t.length → isum (fun f => B f j i) t.length ≤ t.length * 1000 := fun i j hi hj => by
    have e1 := isum_mono (f := fun f => B f j i) (g := fun _ => 1000) (n := t.length) (fun f hf' => by
      have := small f j i hf' hj hi
      have := hlow f j hf' hj
      try simp only
      omega)
    have e2 : ∀ m : Nat, isum (fun _ => 1000) m = (m : Int) * 1000 := by
      intro m
      induction m with
      | zero => rfl
      | succ m ih => rw [isum, ih]; push_cast; omega
    rw [e2] at e1
    exact e1
  obtain ⟨c, c1, c2, c3⟩ := apply_ok h12 (A.settleOut t q).1 t hG mok (fun i j i0 i1 j0 j1 => by
    obtain ⟨i, rfl⟩ := Int.eq_ofNat_of_zero_le i0
    obtain ⟨j, rfl⟩ := Int.eq_ofNat_of_zero_le j0
    rw [gs i j (by omega) (by omega)]
    exact h1 i j (by omega) (by omega)) (fun i j i0 i1 j0 j1 => by
    obtain ⟨i, rfl⟩ := Int.eq_ofNat_of_zero_le i0
    obtain ⟨j, rfl⟩ := Int.eq_ofNat_of_zero_le j0
    rw [ts i j (by omega) (by omega)]
    have := tsb i j (by omega) (by omega)
    have := hlow i j (by omega) (by omega)
    omega)
  have hcl : c.length = t.length := c2.1.1
  have c3' : ∀ i j : Nat, i < t.length → j < t.length → A.get c i j = A.get t i j - isum (B i j) t.length + isum (fun f => B f j i) t.length := fun i j hi hj => by
    rw [c3 i j (by omega) (by omega) (by omega) (by omega), gs i j hi hj, ts i j hi hj]
  have bzero : ∀ f o k, ¬ okM (A.heldT t) q f o k → B f o k = 0 := fun f o k h => by
    by_cases e : B f o k = 0
    · exact e
    · exact absurd (bz f o k e).2.2.2 h
  have hvc : A.validT c = true := valid_of_good c2 h12 (fun i hi => by
    rw [c3' i i hi hi, valid_diag hv i hi, isum_all0 (fun k _ => bzero i i k (fun e => e.2.1 rfl)), isum_all0 (fun f _ => bzero f i i (fun e => e.2.2.2.1 rfl))]
    rfl)
  refine ⟨c, ?_, hvc, hcl, fun d hd => ?_, h5⟩
  · unfold A.applyOut
    rw [if_pos ⟨hv, by
      unfold A.badMoves
      rw [List.any_eq_false]
      intro m hm
      rw [mok m hm]
      simp⟩]
    exact c1
  · have e1 : rd (A.heldT c) d = rd (A.heldT t) d - isum (fun o => isum (B d o) t.length) t.length + isum (fun f => isum (fun o => B f o d) t.length) t.length := by
      rw [held_isum hvc d (by omega), held_isum hv d hd, hcl, isum_congr (fun j hj => c3' d j hd hj)]
      have e2 : isum (fun j => A.get t d j - isum (B d j) t.length + isum (fun f => B f j d) t.length) t.length = isum (fun j => A.get t d j - isum (B d j) t.length) t.length + isum (fun j => isum (fun f => B f j d) t.length) t.length := isum_add _ _ _
      rw [e2, isum_sub, isum_swap (fun f o => B f o d)]
    constructor
    · intro hov
      have hov' : overB (A.heldT t) q d := hov
      rw [e1, h2 d hd hov', isum_all0 (fun f _ => isum_all0 (fun o _ => bzero f o d (fun e => e.2.2.2.2 hov')))]
      omega
    · intro hun
      have hun' : ¬ overB (A.heldT t) q d := hun
      have e3 := h3 d hd hun'
      have e4 : isum (fun o => isum (B d o) t.length) t.length = 0 := isum_all0 (fun o _ => isum_all0 (fun k _ => bzero d o k (fun e => hun' e.1)))
      have e5 : 0 ≤ isum (fun f => isum (fun o => B f o d) t.length) t.length := isum_nonneg (fun f _ => isum_nonneg (fun o _ => b0 f o d))
      rw [e1, e4]
      omega
theorem settle_err (t : List (List Int)) (q : List Int) : (A.settleOut t q).2 = 0 ∨ ((A.settleOut t q).1 = [] ∧ ((A.settleOut t q).2 = 1 ∨ (A.settleOut t q).2 = 7)) := by
  unfold A.settleOut
  split
  · simp only
    split
    · exact Or.inr ⟨rfl, Or.inr rfl⟩
    · exact Or.inl rfl
  · exact Or.inr ⟨rfl, Or.inl rfl⟩
end Go.Proofs.Ytdljbmgknhbceaa.P
