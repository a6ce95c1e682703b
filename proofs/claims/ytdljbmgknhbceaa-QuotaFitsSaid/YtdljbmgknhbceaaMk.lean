import Derived.Test.YtdljbmgknhbceaaMn
namespace Go.Proofs.Ytdljbmgknhbceaa.P
open Go.RowKit Go.Proofs.YtdljbmgknhbceaaW.PrintWords Go.Proofs.Ytdljbmgknhbceaa.Q
set_option linter.unusedVariables false
set_option linter.unusedSimpArgs false
set_option linter.unusedSectionVars false

/-! ### sums, compared -/
theorem isum_mono {f g : Nat → Int} : ∀ {n : Nat}, (∀ i, i < n → f i ≤ g i) → isum f n ≤ isum g n := by
  intro n
  induction n with
  | zero => intro _; exact Int.le_refl _
  | succ n ih =>
    intro h
    have h1 := ih (fun i hi => h i (by omega))
    have h2 := h n (by omega)
    rw [isum, isum]; omega
theorem isum_nonneg {f : Nat → Int} {n : Nat} (h : ∀ i, i < n → 0 ≤ f i) : 0 ≤ isum f n := by
  have := isum_mono (f := fun _ => 0) (g := f) (n := n) h
  rw [isum_zero] at this
  exact this
theorem isum_one {f : Nat → Int} : ∀ {n : Nat} (i : Nat), i < n → (∀ i, i < n → 0 ≤ f i) → f i ≤ isum f n := by
  intro n
  induction n with
  | zero => intro i hi; omega
  | succ n ih =>
    intro i hi h
    rw [isum]
    have h1 := h n (by omega)
    have h2 := isum_nonneg (fun i hi => h i (show i < n + 1 by omega)) (n := n)
    by_cases e : i = n
    · subst e; omega
    · have := ih i (by omega) (fun i hi => h i (by omega)); omega
theorem sumN_def (n : Nat) (φ : Nd → Int) : sumN n φ = φ nS + φ nE + isum (fun f => φ (nH f)) n + isum (fun k => φ (nT k)) n + isum (fun f => isum (fun o => φ (nP f o)) n) n := rfl
theorem sumN_nonneg {n : Nat} {φ : Nd → Int} (h : ∀ x, Vd n x → 0 ≤ φ x) : 0 ≤ sumN n φ := by
  unfold sumN
  have h1 := h nS (vS n)
  have h2 := h nE (vE n)
  have h3 := isum_nonneg (fun f hf => h (nH f) (vH hf)) (n := n)
  have h4 := isum_nonneg (fun f hf => h (nT f) (vT hf)) (n := n)
  have h5 := isum_nonneg (fun f hf => isum_nonneg (fun o ho => h (nP f o) (vP hf ho)) (n := n)) (n := n)
  omega
theorem sumN_H {n : Nat} {φ : Nd → Int} (h : ∀ x, Vd n x → 0 ≤ φ x) : isum (fun f => φ (nH f)) n ≤ sumN n φ := by
  unfold sumN
  have h1 := h nS (vS n)
  have h2 := h nE (vE n)
  have h4 := isum_nonneg (fun f hf => h (nT f) (vT hf)) (n := n)
  have h5 := isum_nonneg (fun f hf => isum_nonneg (fun o ho => h (nP f o) (vP hf ho)) (n := n)) (n := n)
  omega
theorem sumN_T {n : Nat} {φ : Nd → Int} (h : ∀ x, Vd n x → 0 ≤ φ x) : isum (fun k => φ (nT k)) n ≤ sumN n φ := by
  unfold sumN
  have h1 := h nS (vS n)
  have h2 := h nE (vE n)
  have h3 := isum_nonneg (fun f hf => h (nH f) (vH hf)) (n := n)
  have h5 := isum_nonneg (fun f hf => isum_nonneg (fun o ho => h (nP f o) (vP hf ho)) (n := n)) (n := n)
  omega
theorem sumN_P {n : Nat} {φ : Nd → Int} (h : ∀ x, Vd n x → 0 ≤ φ x) (f : Nat) (hf : f < n) : isum (fun o => φ (nP f o)) n ≤ sumN n φ := by
  unfold sumN
  have h1 := h nS (vS n)
  have h2 := h nE (vE n)
  have h3 := isum_nonneg (fun f hf => h (nH f) (vH hf)) (n := n)
  have h4 := isum_nonneg (fun f hf => h (nT f) (vT hf)) (n := n)
  have h5 := isum_one (f := fun f => isum (fun o => φ (nP f o)) n) (n := n) f hf (fun f hf => isum_nonneg (fun o ho => h (nP f o) (vP hf ho)) (n := n))
  try simp only at h5
  omega
theorem sumN_E {n : Nat} {φ : Nd → Int} (h : ∀ x, Vd n x → 0 ≤ φ x) : φ nE ≤ sumN n φ := by
  unfold sumN
  have h1 := h nS (vS n)
  have h3 := isum_nonneg (fun f hf => h (nH f) (vH hf)) (n := n)
  have h4 := isum_nonneg (fun f hf => h (nT f) (vT hf)) (n := n)
  have h5 := isum_nonneg (fun f hf => isum_nonneg (fun o ho => h (nP f o) (vP hf ho)) (n := n)) (n := n)
  omega

/-! ### what leaves a cut -/
open Classical in
theorem cut_value {N : Nat} {M : Int} {g g' : List (List Int)} {s t : Nat} {v : Int} (hS : Sent N M g g' s t v) (hs : s < N) (ht : t < N) {X : Nat → Prop} (hX : Cut N g' s t X) :
    v = isum (fun u => isum (fun y => if X u ∧ ¬ X y then A.get g u y else 0) N) N := by
  obtain ⟨xs, xt, hz⟩ := hX
  have e1 : isum (fun u => if X u then R N g u - R N g' u else 0) N = v := by
    rw [isum_congr (g := fun u => if u = s then v else 0) (fun u hu => by
      rw [hS.row u hu]
      by_cases c : X u
      · rw [if_pos c]
        have : u ≠ t := fun e => xt (e ▸ c)
        rw [if_neg this]
        split <;> omega
      · rw [if_neg c]
        have : u ≠ s := fun e => c (e ▸ xs)
        rw [if_neg this]), isum_pt, if_pos hs]
  have e2 : ∀ u, u < N → (if X u then R N g u - R N g' u else 0) = isum (fun y => if X u then A.get g u y - A.get g' u y else 0) N := fun u _ => by
    by_cases c : X u
    · rw [if_pos c]
      unfold R
      rw [← isum_sub]
      exact isum_congr (fun y _ => by rw [if_pos c])
    · rw [if_neg c, isum_congr (g := fun _ => 0) (fun y _ => by rw [if_neg c]), isum_zero]
  have e3 : ∀ u, u < N → isum (fun y => if X u then A.get g u y - A.get g' u y else 0) N = isum (fun y => if X u ∧ ¬ X y then A.get g u y else 0) N + isum (fun y => if X u ∧ X y then A.get g u y - A.get g' u y else 0) N := fun u hu => by
    rw [← isum_add]
    refine isum_congr (fun y hy => ?_)
    by_cases c : X u
    · by_cases d : X y
      · rw [if_pos c, if_neg (fun e => e.2 d), if_pos ⟨c, d⟩]; omega
      · rw [if_pos c, if_pos ⟨c, d⟩, if_neg (fun e => d e.2), hz u y hu hy c d]; omega
    · rw [if_neg c, if_neg (fun e => c e.1), if_neg (fun e => c e.1)]; rfl
  have e4 : isum (fun u => isum (fun y => if X u ∧ X y then A.get g u y - A.get g' u y else 0) N) N = 0 := by
    have sw := isum_swap (fun u y => if X u ∧ X y then A.get g u y - A.get g' u y else 0) N N
    have ng : isum (fun y => isum (fun u => if X u ∧ X y then A.get g u y - A.get g' u y else 0) N) N = isum (fun u => 0 - isum (fun y => if X u ∧ X y then A.get g u y - A.get g' u y else 0) N) N := by
      refine isum_congr (fun u hu => ?_)
      have : isum (fun y => (0 : Int) - (if X u ∧ X y then A.get g u y - A.get g' u y else 0)) N = isum (fun _ => 0) N - isum (fun y => if X u ∧ X y then A.get g u y - A.get g' u y else 0) N := isum_sub (fun _ => 0) _ N
      rw [isum_zero] at this
      rw [← this]
      refine isum_congr (fun y hy => ?_)
      have := hS.same u y hu hy
      by_cases c : X u ∧ X y
      · rw [if_pos c, if_pos ⟨c.2, c.1⟩]; omega
      · rw [if_neg c, if_neg (fun e => c ⟨e.2, e.1⟩)]; rfl
    rw [ng, isum_sub, isum_zero] at sw
    omega
  have e5 : isum (fun u => if X u then R N g u - R N g' u else 0) N = isum (fun u => isum (fun y => if X u ∧ ¬ X y then A.get g u y else 0) N) N + isum (fun u => isum (fun y => if X u ∧ X y then A.get g u y - A.get g' u y else 0) N) N := by
    rw [← isum_add]
    exact isum_congr (fun u hu => by rw [e2 u hu, e3 u hu])
  omega

/-! ### a relief fits through the network -/
section
variable {t : List (List Int)} {q : List Int} (hf : A.fitsT t q = true)
include hf
theorem fit_valid : A.validT t = true := by
  rw [A.fitsT, Bool.and_eq_true] at hf
  exact hf.1
theorem cap_range {x y : Nd} (hx : Vd t.length x) (hy : Vd t.length y) : 0 ≤ cap (A.heldT t) q t x y ∧ cap (A.heldT t) q t x y ≤ 1125899906842624 := by
  have hv := fit_valid hf
  by_cases c : cap (A.heldT t) q t x y = 0
  · rw [c]; omega
  · rcases cap_cases t.length _ q t hx hy c with ⟨f, h1, rfl, rfl, ho⟩ | ⟨k, h1, rfl, rfl, ho⟩ | ⟨f, o, h1, h2, rfl, rfl, ho⟩ | ⟨f, o, k, h1, h2, h3, rfl, rfl, ho⟩
    · rw [capSH _ _ _ _ ho]
      have a := A.held_bound hv f (by omega) (by omega)
      have b := A.quota_bound hf f (by omega) (by omega)
      unfold overB at ho
      omega
    · rw [capTE _ _ _ _ ho]
      have a := A.held_bound hv k (by omega) (by omega)
      have b := A.quota_bound hf k (by omega) (by omega)
      unfold overB at ho
      omega
    · rw [capHP _ _ _ _ _ ho]
      have := (A.valid_good hv).2 f o (by omega) (by omega) (by omega) (by omega)
      omega
    · rw [capPT _ _ _ _ _ _ ho]
      unfold A.unlim; omega
theorem built_net : Net (A.netSize t.length) 2251799813685248 (A.buildNet t q).1 := by
  obtain ⟨h1, h2⟩ := built hf
  refine ⟨h1, fun x y hx hy => ?_, fun x y hx hy => ?_⟩
  · obtain ⟨a, ha, rfl⟩ := node_of hx
    obtain ⟨b, hb, rfl⟩ := node_of hy
    rw [h2 a b ha hb]; exact (cap_range hf ha hb).1
  · obtain ⟨a, ha, rfl⟩ := node_of hx
    obtain ⟨b, hb, rfl⟩ := node_of hy
    rw [h2 a b ha hb, h2 b a hb ha]
    have r1 := (cap_range hf ha hb).2
    have r2 := (cap_range hf hb ha).2
    omega
open Classical in
theorem relief_full (M : Nat → Nat → Nat → Int) (h0 : ∀ f o k, f < t.length → o < t.length → k < t.length → 0 ≤ M f o k) (hz : ∀ f o k, f < t.length → o < t.length → k < t.length → M f o k ≠ 0 → okM (A.heldT t) q f o k)
    (hu : ∀ f o k, f < t.length → o < t.length → k < t.length → M f o k ≤ 1125899906842624) (ht : ∀ f o, f < t.length → o < t.length → isum (M f o) t.length ≤ A.get t f o)
    (hg : ∀ f, f < t.length → overB (A.heldT t) q f → isum (fun o => isum (M f o) t.length) t.length = rd (A.heldT t) f - rd q f)
    (hk : ∀ k, k < t.length → ¬ overB (A.heldT t) q k → isum (fun f => isum (fun o => M f o k) t.length) t.length ≤ rd q k - rd (A.heldT t) k) : (A.settleOut t q).2 = 0 := by
  have hv := fit_valid hf
  obtain ⟨_, hcap⟩ := built hf
  have hnet := built_net hf
  obtain ⟨ho, ho0, _⟩ := over_eq hf t.length (Nat.le_refl _)
  have hob : (A.buildNet t q).2.1 = isum (fun f => if overB (A.heldT t) q f then rd (A.heldT t) f - rd q f else 0) t.length := ho
  generalize hn : t.length = n at *
  generalize hhas : A.heldT t = has at *
  have l0 : (0 : Nat) < A.netSize n := ix_lt (vS n)
  have l1 : (1 : Nat) < A.netSize n := ix_lt (vE n)
  obtain ⟨v, v0, v1, v2, v3, v4⟩ := flow (N := A.netSize n) (M := 2251799813685248) (by omega) 0 1 l0 l1 (by omega) (A.buildNet t q).2.1 (A.buildNet t q).2.1.toNat (A.buildNet t q).1 0 hnet (Int.le_refl _) (by omega) (by omega)
  have goal : (A.buildNet t q).2.1 ≤ v → (A.settleOut t q).2 = 0 := fun hle => by
    unfold A.settleOut
    rw [if_pos hf]
    simp only
    rw [if_neg]
    have : (A.flowG 0 1 (A.buildNet t q).2.1 (A.buildNet t q).2.1.toNat (A.buildNet t q).1 0).2 = 0 + v := v1
    omega
  rcases v4 with v4 | ⟨X, hX⟩
  · exact goal (by omega)
  · refine goal ?_
    have hval := cut_value v3 l0 l1 hX
    rw [isum_nodes, sumN_congr (ψ := fun x => sumN n (fun y => if X (ix n x) ∧ ¬ X (ix n y) then cap has q t x y else 0)) (fun x hx => by
      rw [isum_nodes]
      exact sumN_congr (fun y hy => by rw [hcap x y hx hy]))] at hval
    have nn : ∀ x y, Vd n x → Vd n y → 0 ≤ (if X (ix n x) ∧ ¬ X (ix n y) then cap has q t x y else 0) := fun x y hx hy => by
      have := cap_range hf (x := x) (y := y) (by rw [hn]; exact hx) (by rw [hn]; exact hy)
      rw [hhas] at this
      split <;> omega
    have nz : ∀ x y, Vd n x → Vd n y → 0 ≤ cap has q t x y := fun x y hx hy => by
      have := cap_range hf (x := x) (y := y) (by rw [hn]; exact hx) (by rw [hn]; exact hy)
      rw [hhas] at this
      exact this.1
    have xs : X (ix n nS) := hX.1
    have xe : ¬ X (ix n nE) := hX.2.1
    -- the four kinds of edges
    have wS : isum (fun f => if X (ix n (nH f)) then 0 else (if overB has q f then rd has f - rd q f else 0)) n ≤ sumN n (fun y => if X (ix n nS) ∧ ¬ X (ix n y) then cap has q t nS y else 0) := by
      refine Int.le_trans (isum_mono (fun f hfn => ?_)) (sumN_H (fun y hy => nn nS y (vS n) hy))
      by_cases c : X (ix n (nH f))
      · rw [if_pos c, if_neg (fun e => e.2 c)]; exact Int.le_refl _
      · rw [if_neg c]
        by_cases d : overB has q f
        · rw [if_pos d, if_pos ⟨xs, c⟩, capSH has q t f d]; exact Int.le_refl _
        · rw [if_neg d, if_pos ⟨xs, c⟩]; exact nz _ _ (vS n) (vH hfn)
    have wH : ∀ f, f < n → isum (fun o => if X (ix n (nH f)) ∧ ¬ X (ix n (nP f o)) then isum (M f o) n else 0) n ≤ sumN n (fun y => if X (ix n (nH f)) ∧ ¬ X (ix n y) then cap has q t (nH f) y else 0) := fun f hfn => by
      refine Int.le_trans (isum_mono (fun o hon => ?_)) (sumN_P (fun y hy => nn (nH f) y (vH hfn) hy) f hfn)
      by_cases c : X (ix n (nH f)) ∧ ¬ X (ix n (nP f o))
      · rw [if_pos c, if_pos c]
        by_cases d : overB has q f
        · rw [capHP has q t f o d]; exact ht f o hfn hon
        · have : isum (M f o) n = 0 := by
            rw [isum_congr (g := fun _ => 0) (fun k hk' => by
              by_cases e : M f o k = 0
              · exact e
              · exact absurd (hz f o k hfn hon hk' e).1 d), isum_zero]
          rw [this]; exact nz _ _ (vH hfn) (vP hfn hon)
      · rw [if_neg c, if_neg c]; exact Int.le_refl _
    have wP : ∀ f o, f < n → o < n → isum (fun k => if X (ix n (nP f o)) ∧ ¬ X (ix n (nT k)) then M f o k else 0) n ≤ sumN n (fun y => if X (ix n (nP f o)) ∧ ¬ X (ix n y) then cap has q t (nP f o) y else 0) := fun f o hfn hon => by
      refine Int.le_trans (isum_mono (fun k hkn => ?_)) (sumN_T (fun y hy => nn (nP f o) y (vP hfn hon) hy))
      by_cases c : X (ix n (nP f o)) ∧ ¬ X (ix n (nT k))
      · rw [if_pos c, if_pos c]
        by_cases e : M f o k = 0
        · rw [e]; exact nz _ _ (vP hfn hon) (vT hkn)
        · rw [capPT has q t f o k (hz f o k hfn hon hkn e)]; exact hu f o k hfn hon hkn
      · rw [if_neg c, if_neg c]; exact Int.le_refl _
    have wT : ∀ k, k < n → (if X (ix n (nT k)) then isum (fun f => isum (fun o => M f o k) n) n else 0) ≤ sumN n (fun y => if X (ix n (nT k)) ∧ ¬ X (ix n y) then cap has q t (nT k) y else 0) := fun k hkn => by
      refine Int.le_trans ?_ (sumN_E (fun y hy => nn (nT k) y (vT hkn) hy))
      by_cases c : X (ix n (nT k))
      · rw [if_pos c, if_pos ⟨c, xe⟩]
        by_cases d : overB has q k
        · have : isum (fun f => isum (fun o => M f o k) n) n = 0 := by
            rw [isum_congr (g := fun _ => 0) (fun f hfn => by
              rw [isum_congr (g := fun _ => 0) (fun o hon => by
                by_cases e : M f o k = 0
                · exact e
                · exact absurd d (hz f o k hfn hon hkn e).2.2.2.2), isum_zero]), isum_zero]
          rw [this]; exact nz _ _ (vT hkn) (vE n)
        · rw [capTE has q t k d]; exact hk k hkn d
      · rw [if_neg c, if_neg (fun e => c e.1)]; exact Int.le_refl _
    have wE := sumN_nonneg (fun y hy => nn nE y (vE n) hy)
    -- what is over, split
    have split1 : ∀ f, f < n → (if overB has q f then rd has f - rd q f else 0) ≤ (if X (ix n (nH f)) then 0 else (if overB has q f then rd has f - rd q f else 0)) + isum (fun o => (if X (ix n (nH f)) ∧ ¬ X (ix n (nP f o)) then isum (M f o) n else 0) + isum (fun k => (if X (ix n (nP f o)) ∧ ¬ X (ix n (nT k)) then M f o k else 0) + (if X (ix n (nT k)) then M f o k else 0)) n) n := fun f hfn => by
      have nnI : ∀ o, o < n → 0 ≤ isum (fun k => (if X (ix n (nP f o)) ∧ ¬ X (ix n (nT k)) then M f o k else 0) + (if X (ix n (nT k)) then M f o k else 0)) n := fun o hon => isum_nonneg (fun k hkn => by
        have := h0 f o k hfn hon hkn
        split <;> split <;> omega)
      have nnM : ∀ o, o < n → 0 ≤ isum (M f o) n := fun o hon => isum_nonneg (fun k hkn => h0 f o k hfn hon hkn)
      by_cases c : X (ix n (nH f))
      · rw [if_pos c, Int.zero_add]
        by_cases d : overB has q f
        · rw [if_pos d, ← hg f hfn d]
          refine isum_mono (fun o hon => ?_)
          by_cases e : X (ix n (nP f o))
          · rw [if_neg (fun z => z.2 e), Int.zero_add]
            refine isum_mono (fun k hkn => ?_)
            by_cases z : X (ix n (nT k))
            · rw [if_neg (fun y => y.2 z), if_pos z]; omega
            · rw [if_pos ⟨e, z⟩, if_neg z]; omega
          · rw [if_pos ⟨c, e⟩]
            have := nnI o hon
            omega
        · rw [if_neg d]
          exact isum_nonneg (fun o hon => by
            have a := nnI o hon
            have b := nnM o hon
            split <;> omega)
      · rw [if_neg c]
        have := isum_nonneg (n := n) (f := fun o => (if X (ix n (nH f)) ∧ ¬ X (ix n (nP f o)) then isum (M f o) n else 0) + isum (fun k => (if X (ix n (nP f o)) ∧ ¬ X (ix n (nT k)) then M f o k else 0) + (if X (ix n (nT k)) then M f o k else 0)) n) (fun o hon => by
          have a := nnI o hon
          have b := nnM o hon
          try simp only
          split <;> omega)
        omega
    have total := isum_mono split1
    rw [isum_add] at total
    have ex : isum (fun f => isum (fun o => (if X (ix n (nH f)) ∧ ¬ X (ix n (nP f o)) then isum (M f o) n else 0) + isum (fun k => (if X (ix n (nP f o)) ∧ ¬ X (ix n (nT k)) then M f o k else 0) + (if X (ix n (nT k)) then M f o k else 0)) n) n) n
        = isum (fun f => isum (fun o => if X (ix n (nH f)) ∧ ¬ X (ix n (nP f o)) then isum (M f o) n else 0) n) n + (isum (fun f => isum (fun o => isum (fun k => if X (ix n (nP f o)) ∧ ¬ X (ix n (nT k)) then M f o k else 0) n) n) n + isum (fun f => isum (fun o => isum (fun k => if X (ix n (nT k)) then M f o k else 0) n) n) n) := by
      rw [← isum_add, ← isum_add]
      refine isum_congr (fun f _ => ?_)
      rw [← isum_add, ← isum_add]
      refine isum_congr (fun o _ => ?_)
      rw [← isum_add]
    have ey : isum (fun f => isum (fun o => isum (fun k => if X (ix n (nT k)) then M f o k else 0) n) n) n = isum (fun k => if X (ix n (nT k)) then isum (fun f => isum (fun o => M f o k) n) n else 0) n := by
      rw [isum_congr (fun f _ => isum_swap (fun o k => if X (ix n (nT k)) then M f o k else 0) n n), isum_swap (fun f k => isum (fun o => if X (ix n (nT k)) then M f o k else 0) n) n n]
      refine isum_congr (fun k _ => ?_)
      by_cases c : X (ix n (nT k))
      · rw [if_pos c]
        exact isum_congr (fun f _ => isum_congr (fun o _ => by rw [if_pos c]))
      · rw [if_neg c, isum_congr (g := fun _ => 0) (fun f _ => by rw [isum_congr (g := fun _ => 0) (fun o _ => by rw [if_neg c]), isum_zero]), isum_zero]
    have bH := isum_mono wH
    have bP := isum_mono (fun f hfn => isum_mono (fun o hon => wP f o hfn hon))
    have bT := isum_mono wT
    rw [sumN_def] at hval
    rw [hob]
    omega
end
end Go.Proofs.Ytdljbmgknhbceaa.P
