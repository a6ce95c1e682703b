import Derived.Test.YtdljbmgknhbceaaMg
namespace Go.Proofs.Ytdljbmgknhbceaa.P
open Go.RowKit Go.Proofs.YtdljbmgknhbceaaW.PrintWords Go.Proofs.Ytdljbmgknhbceaa.Q
set_option linter.unusedVariables false
set_option linter.unusedSimpArgs false
set_option linter.unusedSectionVars false

/-! ### all moves fixed -/
def inP (n : Nat) (pre : List S29) (f o k : Nat) : Prop := f < n ∧ o < n ∧ k < n ∧ mk29 f o k 0 ∈ pre
theorem ltM_irr (m : S29) : ¬ ltM m m := by unfold ltM; omega
theorem mk_inj {f o k f' o' k' : Nat} {b b' : Int} (h : mk29 f o k b = mk29 f' o' k' b') : f = f' ∧ o = o' ∧ k = k' := by
  unfold mk29 at h
  injection h with h1 h2 h3 _
  exact ⟨by omega, by omega, by omega⟩
theorem run {n : Nat} {has q : List Int} {t : List (List Int)} {R0 : Nd → Int} {ord : List S29} (ho : Lst n (fun f o k => okM has q f o k) ord) : ∀ (L pre : List S29) (g : List (List Int)) (B : Nat → Nat → Nat → Int) (out : List S29), pre ++ L = ord → Ph n has q t R0 g (inP n pre) B out →
    ∃ B', Ph n has q t R0 (A.settleGo n L (g, out)).1 (inP n ord) B' (A.settleGo n L (g, out)).2 := by
  intro L
  induction L with
  | nil => intro pre g B out he h; rw [List.append_nil] at he; subst he; exact ⟨B, h⟩
  | cons m ms ih =>
    intro pre g B out he h
    obtain ⟨f, o, k, hf, ho', hk, hok, rfl⟩ := ho.all m (by rw [← he]; simp)
    have hs := ho.srt
    rw [← he, List.pairwise_append] at hs
    have hlt : ∀ f' o' k', inP n pre f' o' k' → f' < f ∨ (f' = f ∧ (o' < o ∨ (o' = o ∧ k' < k))) := fun f' o' k' hp => by
      have := hs.2.2 _ hp.2.2.2 _ List.mem_cons_self
      unfold ltM mk29 at this
      simp only at this
      omega
    obtain ⟨b, _, _, h2⟩ := h.step hf ho' hk hok (fun e => by have := hlt f o k e; omega) hlt
    rw [A.settleGo]
    have hE : (fun f' o' k' => inP n pre f' o' k' ∨ (f' = f ∧ o' = o ∧ k' = k)) = inP n (pre ++ [mk29 f o k 0]) := by
      funext f' o' k'
      apply propext
      unfold inP
      constructor
      · rintro (⟨a1, a2, a3, a4⟩ | ⟨rfl, rfl, rfl⟩)
        · exact ⟨a1, a2, a3, List.mem_append.2 (Or.inl a4)⟩
        · exact ⟨hf, ho', hk, List.mem_append.2 (Or.inr (List.mem_singleton.2 rfl))⟩
      · rintro ⟨a1, a2, a3, a4⟩
        rcases List.mem_append.1 a4 with a4 | a4
        · exact Or.inl ⟨a1, a2, a3, a4⟩
        · exact Or.inr (mk_inj (List.mem_singleton.1 a4))
    rw [hE] at h2
    have := ih (pre ++ [mk29 f o k 0]) (A.settleStep n (g, out) (mk29 f o k 0)).1 _ (A.settleStep n (g, out) (mk29 f o k 0)).2 (by rw [List.append_assoc]; exact he) h2
    exact this

/-! ### rows of capacities -/
section
variable {n : Nat} {has q : List Int} {t : List (List Int)}
theorem cap_zero {x y : Nd} (hx : Vd n x) (hy : Vd n y) (h : ∀ f o k, ¬ (x = nS ∧ y = nH f) ∧ ¬ (x = nT k ∧ y = nE) ∧ ¬ (x = nH f ∧ y = nP f o) ∧ ¬ (x = nP f o ∧ y = nT k)) : cap has q t x y = 0 := by
  by_cases c : cap has q t x y = 0
  · exact c
  · rcases cap_cases n has q t hx hy c with ⟨f, _, e1, e2, _⟩ | ⟨k, _, e1, e2, _⟩ | ⟨f, o, _, _, e1, e2, _⟩ | ⟨f, o, k, _, _, _, e1, e2, _⟩
    · exact absurd ⟨e1, e2⟩ (h f 0 0).1
    · exact absurd ⟨e1, e2⟩ (h 0 0 k).2.1
    · exact absurd ⟨e1, e2⟩ (h f o 0).2.2.1
    · exact absurd ⟨e1, e2⟩ (h f o k).2.2.2
theorem isum_all0 {F : Nat → Int} {m : Nat} (h : ∀ i, i < m → F i = 0) : isum F m = 0 := by
  rw [isum_congr (g := fun _ => 0) h, isum_zero]
theorem isum_only {F : Nat → Int} {m p : Nat} (hp : p < m) (h : ∀ i, i < m → i ≠ p → F i = 0) : isum F m = F p := by
  rw [isum_congr (g := fun i => if i = p then F p else 0) (fun i hi => by
    by_cases e : i = p
    · rw [if_pos e, e]
    · rw [if_neg e]; exact h i hi e), isum_pt, if_pos hp]
end

/-! ### what the fixed moves are -/
section
variable {t : List (List Int)} {q : List Int} (hf : A.fitsT t q = true) (hs : (A.settleOut t q).2 = 0)
include hf hs
open Classical in
theorem fixed : ∃ B : Nat → Nat → Nat → Int, (∀ f o k, 0 ≤ B f o k) ∧ (∀ f o k, B f o k ≠ 0 → f < t.length ∧ o < t.length ∧ k < t.length ∧ okM (A.heldT t) q f o k) ∧
    (∀ f o : Nat, f < t.length → o < t.length → isum (B f o) t.length ≤ A.get t f o) ∧
    (∀ f : Nat, f < t.length → overB (A.heldT t) q f → isum (fun o => isum (B f o) t.length) t.length = rd (A.heldT t) f - rd q f) ∧
    (∀ k : Nat, k < t.length → ¬ overB (A.heldT t) q k → isum (fun f => isum (fun o => B f o k) t.length) t.length ≤ rd q k - rd (A.heldT t) k) ∧
    (∀ m ∈ (A.settleOut t q).1, ∃ f o k, f < t.length ∧ o < t.length ∧ k < t.length ∧ okM (A.heldT t) q f o k ∧ 0 < B f o k ∧ m = mk29 f o k (B f o k)) ∧ (A.settleOut t q).1.Pairwise ltM ∧
    (∀ f o : Nat, f < t.length → o < t.length → isum (B f o) t.length = ((A.settleOut t q).1.map fun m => if m.f0 = (f : Int) ∧ m.f2 = (o : Int) then m.f3 else 0).sum) ∧
    (∀ k o : Nat, k < t.length → o < t.length → isum (fun f => B f o k) t.length = ((A.settleOut t q).1.map fun m => if m.f1 = (k : Int) ∧ m.f2 = (o : Int) then m.f3 else 0).sum) := by
  have hv := fit_valid hf
  obtain ⟨_, hcap⟩ := built hf
  have hnet := built_net hf
  obtain ⟨ho, ho0, _⟩ := over_eq hf t.length (Nat.le_refl _)
  have hob : (A.buildNet t q).2.1 = isum (fun f => if overB (A.heldT t) q f then rd (A.heldT t) f - rd q f else 0) t.length := ho
  have hord := order_ok t q
  have hcr := fun (x y : Nd) (hx : Vd t.length x) (hy : Vd t.length y) => cap_range hf hx hy
  have l0 : (0 : Nat) < A.netSize t.length := ix_lt (vS t.length)
  have l1 : (1 : Nat) < A.netSize t.length := ix_lt (vE t.length)
  obtain ⟨v, v0, v1, v2, v3, v4⟩ := flow (N := A.netSize t.length) (M := 2251799813685248) (by omega) 0 1 l0 l1 (by omega) (A.buildNet t q).2.1 (A.buildNet t q).2.1.toNat (A.buildNet t q).1 0 hnet (Int.le_refl _) (by omega) (by omega)
  have v1' : (A.flowG 0 1 (A.buildNet t q).2.1 (A.buildNet t q).2.1.toNat (A.buildNet t q).1 0).2 = 0 + v := v1
  have hso : A.settleOut t q = (if (A.flowG 0 1 (A.buildNet t q).2.1 (A.buildNet t q).2.1.toNat (A.buildNet t q).1 0).2 < (A.buildNet t q).2.1 then ([], 7) else ((A.settleGo t.length (A.buildNet t q).2.2 ((A.flowG 0 1 (A.buildNet t q).2.1 (A.buildNet t q).2.1.toNat (A.buildNet t q).1 0).1, [])).2, 0)) := by
    rw [A.settleOut, if_pos hf]
  have hnlt : ¬ (A.flowG 0 1 (A.buildNet t q).2.1 (A.buildNet t q).2.1.toNat (A.buildNet t q).1 0).2 < (A.buildNet t q).2.1 := fun e => by
    rw [hso, if_pos e] at hs
    cases hs
  have hv2 : v = (A.buildNet t q).2.1 := by omega
  rw [if_neg hnlt] at hso
  have v3' : Sent (A.netSize t.length) 2251799813685248 (A.buildNet t q).1 (A.flowG 0 1 (A.buildNet t q).2.1 (A.buildNet t q).2.1.toNat (A.buildNet t q).1 0).1 0 1 v := v3
  clear v1 v3 v4 v1' hnlt
  generalize (A.flowG 0 1 (A.buildNet t q).2.1 (A.buildNet t q).2.1.toNat (A.buildNet t q).1 0).1 = g1 at v3' hso
  generalize hn : t.length = n at *
  generalize hhas : A.heldT t = has at *
  -- the rows after the first phase
  have row0 : ∀ x, Vd n x → R (A.netSize n) (A.buildNet t q).1 (ix n x) = sumN n (fun y => cap has q t x y) := fun x hx => by
    unfold R
    rw [isum_nodes]
    exact sumN_congr (fun y hy => hcap x y hx hy)
  have start : Ph n has q t (fun x => R (A.netSize n) g1 (ix n x)) g1 (inP n []) (fun _ _ _ => 0) [] := by
    refine ⟨v3'.net, fun x y hx hy => ?_, fun _ _ _ => Int.le_refl _, fun _ _ _ e => absurd rfl e, rfl, fun _ _ => rfl, fun k _ => ?_, fun f o _ _ => ?_, (fun m hm => by cases hm), List.Pairwise.nil, fun f o _ _ => ?_, fun k o _ _ => ?_⟩
    · rw [v3'.same _ _ (ix_lt hx) (ix_lt hy), hcap x y hx hy, hcap y x hy hx, if_neg]
      rintro ⟨f, o, k, e, _⟩
      exact absurd e.2.2.2 (by simp)
    · rw [isum_all0 (fun f _ => isum_all0 (fun o _ => rfl))]; omega
    · rw [isum_all0 (fun k _ => rest_neg (fun e => absurd e.2.2.2 (by simp)))]; omega
    · exact isum_all0 (fun k _ => rfl)
    · exact isum_all0 (fun k _ => rfl)
  obtain ⟨B, hP⟩ := run hord (A.buildNet t q).2.2 [] g1 _ [] (by simp) start
  rw [hso]
  simp only
  generalize (A.settleGo n (A.buildNet t q).2.2 (g1, [])).1 = g at hP
  generalize (A.settleGo n (A.buildNet t q).2.2 (g1, [])).2 = out at hP
  have hE : ∀ f o k, inP n (A.buildNet t q).2.2 f o k ↔ f < n ∧ o < n ∧ k < n ∧ okM has q f o k := fun f o k => by
    constructor
    · rintro ⟨a, b, c, d⟩
      obtain ⟨f', o', k', _, _, _, d5, e⟩ := hord.all _ d
      obtain ⟨rfl, rfl, rfl⟩ := mk_inj e
      exact ⟨a, b, c, d5⟩
    · rintro ⟨a, b, c, d⟩
      exact ⟨a, b, c, hord.has f o k a b c d⟩
  have hB : ∀ f o k, B f o k ≠ 0 → f < n ∧ o < n ∧ k < n ∧ okM has q f o k := fun f o k e => (hE f o k).1 (hP.bz f o k e)
  have low : ∀ x y, Vd n x → Vd n y → 0 ≤ A.get g (ix n x) (ix n y) := fun x y hx hy => hP.net.low _ _ (ix_lt hx) (ix_lt hy)
  have none : ∀ x y, Vd n x → Vd n y → cap has q t x y = 0 → cap has q t y x = 0 → A.get g (ix n x) (ix n y) = 0 := fun x y hx hy c1 c2 => by
    have h1 := hP.sums x y hx hy
    have h2 := low x y hx hy
    have h3 := low y x hy hx
    rw [c1, c2] at h1
    split at h1 <;> omega
  have rowg : ∀ x, Vd n x → R (A.netSize n) g (ix n x) = sumN n (fun y => A.get g (ix n x) (ix n y)) := fun x hx => by
    unfold R
    rw [isum_nodes]
  have rowP1 : ∀ x, Vd n x → x ≠ nS → x ≠ nE → R (A.netSize n) g1 (ix n x) = sumN n (fun y => cap has q t x y) := fun x hx h1 h2 => by
    rw [v3'.row _ (ix_lt hx), if_neg (fun e => h1 (ix_inj hx (vS n) (by rw [ixS]; exact e))), if_neg (fun e => h2 (ix_inj hx (vE n) (by rw [ixE]; exact e))), row0 x hx]; omega
  -- the source is empty
  have rS : R (A.netSize n) g (ix n nS) = 0 := by
    rw [hP.rS]
    show R (A.netSize n) g1 (ix n nS) = 0
    rw [v3'.row _ (ix_lt (vS n)), if_pos (ixS n), if_neg (by rw [ixS]; omega), row0 nS (vS n), hv2, hob, sumN_def]
    rw [cap_zero (n := n) (vS n) (vS n) (fun f o k => by simp [nS, nH, nT, nE, nP]), cap_zero (n := n) (vS n) (vE n) (fun f o k => by simp [nS, nH, nT, nE, nP]), isum_all0 (fun k hk => cap_zero (n := n) (vS n) (vT hk) (fun f o k' => by simp [nS, nH, nT, nE, nP])), isum_all0 (fun f hf' => isum_all0 (fun o ho' => cap_zero (n := n) (vS n) (vP hf' ho') (fun f' o' k' => by simp [nS, nH, nT, nE, nP])))]
    have : isum (fun f => cap has q t nS (nH f)) n = isum (fun f => if overB has q f then rd has f - rd q f else 0) n := isum_congr (fun f _ => by
      by_cases c : overB has q f
      · rw [if_pos c, capSH has q t f c]
      · rw [if_neg c]
        unfold cap nS nH
        rw [if_pos rfl, if_neg (fun e => c e.2)])
    rw [this]; omega
  have gSH : ∀ f, f < n → A.get g (ix n nS) (ix n (nH f)) = 0 := fun f hfn => by
    have h1 := rowg nS (vS n)
    rw [rS] at h1
    have h2 := sumN_H (fun y hy => low nS y (vS n) hy)
    have h3 := isum_one (f := fun f => A.get g (ix n nS) (ix n (nH f))) f hfn (fun i hi => low nS (nH i) (vS n) (vH hi))
    have h4 := low nS (nH f) (vS n) (vH hfn)
    try simp only at h3
    omega
  -- what a holder keeps for an owner
  have rowP : ∀ f o, f < n → o < n → isum (B f o) n = A.get g (ix n (nP f o)) (ix n (nH f)) := fun f o hfn hon => by
    have h1 := hP.rP f o hfn hon
    have h2 : R (A.netSize n) g1 (ix n (nP f o)) = isum (fun k => cap has q t (nP f o) (nT k)) n := by
      rw [rowP1 _ (vP hfn hon) (by simp [nP, nS]) (by simp [nP, nE]), sumN_def]
      rw [cap_zero (n := n) (vP hfn hon) (vS n) (fun f o k => by simp [nS, nH, nT, nE, nP]), cap_zero (n := n) (vP hfn hon) (vE n) (fun f o k => by simp [nS, nH, nT, nE, nP]), isum_all0 (fun k hk => cap_zero (n := n) (vP hfn hon) (vH hk) (fun f o k' => by simp [nS, nH, nT, nE, nP])), isum_all0 (fun f' hf' => isum_all0 (fun o' ho' => cap_zero (n := n) (vP hfn hon) (vP hf' ho') (fun f' o' k' => by simp [nS, nH, nT, nE, nP])))]
      omega
    have h3 : isum (rest (inP n (A.buildNet t q).2.2) B f o) n + isum (B f o) n = isum (fun k => cap has q t (nP f o) (nT k)) n := by
      rw [← isum_add]
      refine isum_congr (fun k hkn => ?_)
      by_cases c : okM has q f o k
      · rw [rest_pos ((hE f o k).2 ⟨hfn, hon, hkn, c⟩), capPT has q t f o k c]; omega
      · rw [rest_neg (fun e => c ((hE f o k).1 e).2.2.2)]
        have hb0 : B f o k = 0 := by
          by_cases e : B f o k = 0
          · exact e
          · exact absurd (hB f o k e).2.2.2 c
        rw [hb0]
        unfold cap nP nT
        rw [if_neg (by simp), if_neg (by simp), if_neg (by simp), if_pos rfl, if_neg (fun e => c e.2)]
        rfl
    have h4 : R (A.netSize n) g (ix n (nP f o)) = A.get g (ix n (nP f o)) (ix n (nH f)) := by
      rw [rowg _ (vP hfn hon), sumN_def]
      rw [none _ _ (vP hfn hon) (vS n) (cap_zero (n := n) (vP hfn hon) (vS n) (fun f o k => by simp [nS, nH, nT, nE, nP])) (cap_zero (n := n) (vS n) (vP hfn hon) (fun f o k => by simp [nS, nH, nT, nE, nP])),
        none _ _ (vP hfn hon) (vE n) (cap_zero (n := n) (vP hfn hon) (vE n) (fun f o k => by simp [nS, nH, nT, nE, nP])) (cap_zero (n := n) (vE n) (vP hfn hon) (fun f o k => by simp [nS, nH, nT, nE, nP])),
        isum_all0 (fun f' hf' => isum_all0 (fun o' ho' => none _ _ (vP hfn hon) (vP hf' ho') (cap_zero (n := n) (vP hfn hon) (vP hf' ho') (fun f o k => by simp [nS, nH, nT, nE, nP])) (cap_zero (n := n) (vP hf' ho') (vP hfn hon) (fun f o k => by simp [nS, nH, nT, nE, nP])))),
        isum_only (F := fun f' => A.get g (ix n (nP f o)) (ix n (nH f'))) hfn (fun f' hf' hne => none _ _ (vP hfn hon) (vH hf') (cap_zero (n := n) (vP hfn hon) (vH hf') (fun f o k => by simp [nS, nH, nT, nE, nP])) (cap_zero (n := n) (vH hf') (vP hfn hon) (fun f'' o'' k => by
          simp only [nS, nH, nT, nE, nP, Prod.mk.injEq]
          omega))),
        isum_all0 (fun k hkn => ?_)]
      · omega
      · have h5 := hP.sums (nP f o) (nT k) (vP hfn hon) (vT hkn)
        have h6 := low (nP f o) (nT k) (vP hfn hon) (vT hkn)
        have h7 := low (nT k) (nP f o) (vT hkn) (vP hfn hon)
        by_cases c : okM has q f o k
        · rw [if_pos ⟨f, o, k, (hE f o k).2 ⟨hfn, hon, hkn, c⟩, Or.inl ⟨rfl, rfl⟩⟩] at h5
          omega
        · have c1 : cap has q t (nP f o) (nT k) = 0 := by
            unfold cap nP nT
            rw [if_neg (by simp), if_neg (by simp), if_neg (by simp), if_pos rfl, if_neg (fun e => c e.2)]
          exact none _ _ (vP hfn hon) (vT hkn) c1 (cap_zero (n := n) (vT hkn) (vP hfn hon) (fun f o k => by simp [nS, nH, nT, nE, nP]))
    have h1' : R (A.netSize n) g (ix n (nP f o)) = R (A.netSize n) g1 (ix n (nP f o)) - isum (rest (inP n (A.buildNet t q).2.2) B f o) n := h1
    omega
  have pairHP : ∀ f o, f < n → o < n → A.get g (ix n (nH f)) (ix n (nP f o)) + A.get g (ix n (nP f o)) (ix n (nH f)) = cap has q t (nH f) (nP f o) := fun f o hfn hon => by
    rw [hP.sums _ _ (vH hfn) (vP hfn hon), if_neg, cap_zero (n := n) (vP hfn hon) (vH hfn) (fun f o k => by simp [nS, nH, nT, nE, nP])]
    · omega
    · rintro ⟨f', o', k', _, ⟨e1, e2⟩ | ⟨e1, e2⟩⟩
      · simp [nH, nP] at e1
      · simp [nH, nT] at e1
  refine ⟨B, hP.b0, hB, fun f o hfn hon => ?_, fun f hfn hov => ?_, fun k hkn hun => ?_, fun m hm => ?_, hP.os, hP.og, hP.ot⟩
  · rw [rowP f o hfn hon]
    have h1 := pairHP f o hfn hon
    have h2 := low (nH f) (nP f o) (vH hfn) (vP hfn hon)
    by_cases c : overB has q f
    · rw [capHP has q t f o c] at h1; omega
    · have : cap has q t (nH f) (nP f o) = 0 := by
        unfold cap nH nP
        rw [if_neg (by simp), if_neg (by simp), if_pos rfl, if_neg (fun e => c e.2.2)]
      have h4 := (A.valid_good hv).2 f o (by omega) (by omega) (by omega) (by omega)
      omega
  · have h1 := hP.rH f hfn
    have h2 : R (A.netSize n) g1 (ix n (nH f)) = isum (fun o => cap has q t (nH f) (nP f o)) n := by
      rw [rowP1 _ (vH hfn) (by simp [nH, nS]) (by simp [nH, nE]), sumN_def]
      rw [cap_zero (n := n) (vH hfn) (vS n) (fun f o k => by simp [nS, nH, nT, nE, nP]), cap_zero (n := n) (vH hfn) (vE n) (fun f o k => by simp [nS, nH, nT, nE, nP]), isum_all0 (fun k hk => cap_zero (n := n) (vH hfn) (vH hk) (fun f o k' => by simp [nS, nH, nT, nE, nP])), isum_all0 (fun k hk => cap_zero (n := n) (vH hfn) (vT hk) (fun f o k' => by simp [nS, nH, nT, nE, nP])),
        isum_only (F := fun f' => isum (fun o => cap has q t (nH f) (nP f' o)) n) hfn (fun f' hf' hne => isum_all0 (fun o hon => cap_zero (n := n) (vH hfn) (vP hf' hon) (fun f'' o'' k => by
          simp only [nS, nH, nT, nE, nP, Prod.mk.injEq]
          omega)))]
      omega
    have h3 : R (A.netSize n) g (ix n (nH f)) = A.get g (ix n (nH f)) (ix n nS) + isum (fun o => A.get g (ix n (nH f)) (ix n (nP f o))) n := by
      rw [rowg _ (vH hfn), sumN_def]
      rw [none _ _ (vH hfn) (vE n) (cap_zero (n := n) (vH hfn) (vE n) (fun f o k => by simp [nS, nH, nT, nE, nP])) (cap_zero (n := n) (vE n) (vH hfn) (fun f o k => by simp [nS, nH, nT, nE, nP])),
        isum_all0 (fun k hk => none _ _ (vH hfn) (vH hk) (cap_zero (n := n) (vH hfn) (vH hk) (fun f o k' => by simp [nS, nH, nT, nE, nP])) (cap_zero (n := n) (vH hk) (vH hfn) (fun f o k' => by simp [nS, nH, nT, nE, nP]))),
        isum_all0 (fun k hk => none _ _ (vH hfn) (vT hk) (cap_zero (n := n) (vH hfn) (vT hk) (fun f o k' => by simp [nS, nH, nT, nE, nP])) (cap_zero (n := n) (vT hk) (vH hfn) (fun f o k' => by simp [nS, nH, nT, nE, nP]))),
        isum_only (F := fun f' => isum (fun o => A.get g (ix n (nH f)) (ix n (nP f' o))) n) hfn (fun f' hf' hne => isum_all0 (fun o hon => none _ _ (vH hfn) (vP hf' hon) (cap_zero (n := n) (vH hfn) (vP hf' hon) (fun f'' o'' k => by
          simp only [nS, nH, nT, nE, nP, Prod.mk.injEq]
          omega)) (cap_zero (n := n) (vP hf' hon) (vH hfn) (fun f o k' => by simp [nS, nH, nT, nE, nP]))))]
      omega
    have h4 : A.get g (ix n (nH f)) (ix n nS) = rd has f - rd q f := by
      have h5 := hP.sums _ _ (vS n) (vH hfn)
      rw [if_neg, gSH f hfn, capSH has q t f hov, cap_zero (n := n) (vH hfn) (vS n) (fun f o k => by simp [nS, nH, nT, nE, nP])] at h5
      · omega
      · rintro ⟨f', o', k', _, ⟨e1, e2⟩ | ⟨e1, e2⟩⟩
        · simp [nS, nP] at e1
        · simp [nS, nT] at e1
    have h5 : isum (fun o => A.get g (ix n (nH f)) (ix n (nP f o))) n + isum (fun o => isum (B f o) n) n = isum (fun o => cap has q t (nH f) (nP f o)) n := by
      rw [← isum_add]
      exact isum_congr (fun o hon => by rw [rowP f o hfn hon]; exact pairHP f o hfn hon)
    have h1' : R (A.netSize n) g (ix n (nH f)) = R (A.netSize n) g1 (ix n (nH f)) := h1
    omega
  · have h1 : R (A.netSize n) g (ix n (nT k)) = R (A.netSize n) g1 (ix n (nT k)) - isum (fun f => isum (fun o => B f o k) n) n := hP.rT k hkn
    have h2 : R (A.netSize n) g1 (ix n (nT k)) = rd q k - rd has k := by
      rw [rowP1 _ (vT hkn) (by simp [nT, nS]) (by simp [nT, nE]), sumN_def]
      rw [cap_zero (n := n) (vT hkn) (vS n) (fun f o k => by simp [nS, nH, nT, nE, nP]), capTE has q t k hun, isum_all0 (fun k' hk => cap_zero (n := n) (vT hkn) (vH hk) (fun f o k' => by simp [nS, nH, nT, nE, nP])), isum_all0 (fun k' hk => cap_zero (n := n) (vT hkn) (vT hk) (fun f o k' => by simp [nS, nH, nT, nE, nP])), isum_all0 (fun f' hf' => isum_all0 (fun o' ho' => cap_zero (n := n) (vT hkn) (vP hf' ho') (fun f' o' k' => by simp [nS, nH, nT, nE, nP])))]
      omega
    have h3 : 0 ≤ R (A.netSize n) g (ix n (nT k)) := by
      rw [rowg _ (vT hkn)]
      exact sumN_nonneg (fun y hy => low (nT k) y (vT hkn) hy)
    omega
  · obtain ⟨f, o, k, a1, a2, a3, a4, a5, a6⟩ := hP.oa m hm
    exact ⟨f, o, k, a1, a2, a3, ((hE f o k).1 a4).2.2.2, a5, a6⟩
end

/-! ### the moves applied -/
def gsum (l : List S29) (i j : Int) : Int := (l.map fun m => if m.f0 = i ∧ m.f2 = j then m.f3 else 0).sum
def tsum (l : List S29) (i j : Int) : Int := (l.map fun m => if m.f1 = i ∧ m.f2 = j then m.f3 else 0).sum
theorem apply_ok {n : Nat} (hn : n ≤ 12) : ∀ (l : List S29) (t : List (List Int)), A.Good n t → (∀ m ∈ l, A.mvOk n m = true) → (∀ i j : Int, 0 ≤ i → i < n → 0 ≤ j → j < n → gsum l i j ≤ A.get t i j) → (∀ i j : Int, 0 ≤ i → i < n → 0 ≤ j → j < n → A.get t i j + tsum l i j ≤ 1099511627776) →
    ∃ c, A.applyGo t l = (c, 0) ∧ A.Good n c ∧ ∀ i j : Int, 0 ≤ i → i < n → 0 ≤ j → j < n → A.get c i j = A.get t i j - gsum l i j + tsum l i j := by
  intro l
  induction l with
  | nil => intro t hg _ _ _; exact ⟨t, rfl, hg, fun i j _ _ _ _ => by simp [gsum, tsum]⟩
  | cons m l ih =>
    intro t hg hm h1 h2
    have hok := hm m List.mem_cons_self
    have hok' := hok
    simp only [A.mvOk, A.moveOk, A.inI, Bool.and_eq_true, Bool.not_eq_true', beq_eq_false_iff_ne, decide_eq_true_eq] at hok'
    obtain ⟨c1, ⟨f0, f1⟩, ⟨g0, g1⟩, ⟨o0, o1⟩, c2, c3, x0, x1⟩ := hok'
    have pos : ∀ m' ∈ l, 0 ≤ m'.f3 := fun m' hm' => by
      have := hm m' (List.mem_cons_of_mem _ hm')
      simp only [A.mvOk, A.moveOk, Bool.and_eq_true, decide_eq_true_eq] at this
      omega
    have gc : ∀ i j, gsum (m :: l) i j = (if m.f0 = i ∧ m.f2 = j then m.f3 else 0) + gsum l i j := fun i j => by simp [gsum]
    have tc : ∀ i j, tsum (m :: l) i j = (if m.f1 = i ∧ m.f2 = j then m.f3 else 0) + tsum l i j := fun i j => by simp [tsum]
    have sumnn : ∀ (L : List S29), (∀ m' ∈ L, 0 ≤ m'.f3) → ∀ i j, 0 ≤ gsum L i j ∧ 0 ≤ tsum L i j := by
      intro L
      induction L with
      | nil => intro _ i j; simp [gsum, tsum]
      | cons a L ihL =>
        intro hL i j
        have ha := hL a List.mem_cons_self
        obtain ⟨p1, p2⟩ := ihL (fun m' hm' => hL m' (List.mem_cons_of_mem _ hm')) i j
        have e1 : gsum (a :: L) i j = (if a.f0 = i ∧ a.f2 = j then a.f3 else 0) + gsum L i j := by simp [gsum]
        have e2 : tsum (a :: L) i j = (if a.f1 = i ∧ a.f2 = j then a.f3 else 0) + tsum L i j := by simp [tsum]
        rw [e1, e2]
        constructor <;> split <;> omega
    have nn := sumnn l pos
    have b1 := h1 m.f0 m.f2 f0 f1 o0 o1
    have b2 := h2 m.f1 m.f2 g0 g1 o0 o1
    rw [gc, if_pos ⟨rfl, rfl⟩] at b1
    rw [tc, if_pos ⟨rfl, rfl⟩] at b2
    have n1 := (nn m.f0 m.f2).1
    have n2 := (nn m.f1 m.f2).2
    have hb : m.f3 ≤ A.get t m.f0 m.f2 := by omega
    have hc : A.get t m.f1 m.f2 + m.f3 ≤ 1099511627776 := by omega
    have hget := get_mv hg hn hok hb hc
    obtain ⟨c, e1, e2, e3⟩ := ih (A.mv t m) (good_mv hg hn hok hb hc) (fun m' hm' => hm m' (List.mem_cons_of_mem _ hm')) (fun i j i0 i1 j0 j1 => by
      have a := h1 i j i0 i1 j0 j1
      rw [gc] at a
      rw [hget i j i0 j0]
      by_cases z : j = m.f2
      · rw [if_pos z]
        by_cases y : i = m.f1
        · rw [if_pos y, if_neg (fun e => c1 (by rw [e.1, y]))] at *
          omega
        · rw [if_neg y]
          by_cases w : i = m.f0
          · rw [if_pos w]
            rw [if_pos ⟨w.symm, z.symm⟩] at a
            omega
          · rw [if_neg w]
            rw [if_neg (fun e => w e.1.symm)] at a
            omega
      · rw [if_neg z]
        rw [if_neg (fun e => z e.2.symm)] at a
        omega) (fun i j i0 i1 j0 j1 => by
      have a := h2 i j i0 i1 j0 j1
      rw [tc] at a
      rw [hget i j i0 j0]
      by_cases z : j = m.f2
      · rw [if_pos z]
        by_cases y : i = m.f1
        · rw [if_pos y]
          rw [if_pos ⟨y.symm, z.symm⟩] at a
          omega
        · rw [if_neg y]
          rw [if_neg (fun e => y e.1.symm)] at a
          by_cases w : i = m.f0
          · rw [if_pos w]; omega
          · rw [if_neg w]; omega
      · rw [if_neg z]
        rw [if_neg (fun e => z e.2.symm)] at a
        omega)
    refine ⟨c, ?_, e2, fun i j i0 i1 j0 j1 => ?_⟩
    · rw [A.applyGo, if_neg (by omega), if_neg (by omega)]
      exact e1
    · rw [e3 i j i0 i1 j0 j1, gc, tc, hget i j i0 j0]
      by_cases z : j = m.f2
      · rw [if_pos z]
        by_cases y : i = m.f1
        · rw [if_pos y, if_neg (fun e => c1 (by rw [e.1, y])), if_pos ⟨y.symm, z.symm⟩]; omega
        · rw [if_neg y, if_neg (fun e : m.f1 = i ∧ m.f2 = j => y e.1.symm)]
          by_cases w : i = m.f0
          · rw [if_pos w, if_pos ⟨w.symm, z.symm⟩]; omega
          · rw [if_neg w, if_neg (fun e => w e.1.symm)]; omega
      · rw [if_neg z, if_neg (fun e => z e.2.symm), if_neg (fun e => z e.2.symm)]; omega
end Go.Proofs.Ytdljbmgknhbceaa.P
