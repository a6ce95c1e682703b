import Derived.Test.YtdljbmgknhbceaaMk
namespace Go.Proofs.Ytdljbmgknhbceaa.P
open Go.RowKit Go.Proofs.YtdljbmgknhbceaaW.PrintWords Go.Proofs.Ytdljbmgknhbceaa.Q
set_option linter.unusedVariables false
set_option linter.unusedSimpArgs false
set_option linter.unusedSectionVars false

/-! ### the order of the moves -/
def mk29 (f o k : Nat) (b : Int) : S29 := ⟨(f : Int), (k : Int), (o : Int), b⟩
def ltM (x y : S29) : Prop := x.f0 < y.f0 ∨ (x.f0 = y.f0 ∧ (x.f2 < y.f2 ∨ (x.f2 = y.f2 ∧ x.f1 < y.f1)))
structure Lst (n : Nat) (D : Nat → Nat → Nat → Prop) (L : List S29) : Prop where
  all : ∀ m ∈ L, ∃ f o k, f < n ∧ o < n ∧ k < n ∧ D f o k ∧ m = mk29 f o k 0
  srt : L.Pairwise ltM
  has : ∀ f o k, f < n → o < n → k < n → D f o k → mk29 f o k 0 ∈ L
theorem Lst.congr {n : Nat} {D D' : Nat → Nat → Nat → Prop} {L : List S29} (h : Lst n D L) (hd : ∀ f o k, f < n → o < n → k < n → (D f o k ↔ D' f o k)) : Lst n D' L :=
  ⟨fun m hm => by obtain ⟨f, o, k, a, b, c, d, e⟩ := h.all m hm
                  exact ⟨f, o, k, a, b, c, (hd f o k a b c).1 d, e⟩, h.srt, fun f o k a b c d => h.has f o k a b c ((hd f o k a b c).2 d)⟩
theorem Lst.snoc {n : Nat} {D : Nat → Nat → Nat → Prop} {L : List S29} (h : Lst n D L) (f o k : Nat) (hf : f < n) (ho : o < n) (hk : k < n) (hlt : ∀ f' o' k', f' < n → o' < n → k' < n → D f' o' k' → f' < f ∨ (f' = f ∧ (o' < o ∨ (o' = o ∧ k' < k)))) :
    Lst n (fun f' o' k' => D f' o' k' ∨ (f' = f ∧ o' = o ∧ k' = k)) (L ++ [mk29 f o k 0]) := by
  refine ⟨fun m hm => ?_, ?_, fun f' o' k' a b c d => ?_⟩
  · rcases List.mem_append.1 hm with hm | hm
    · obtain ⟨f', o', k', a, b, c, d, e⟩ := h.all m hm
      exact ⟨f', o', k', a, b, c, Or.inl d, e⟩
    · rw [List.mem_singleton.1 hm]
      exact ⟨f, o, k, hf, ho, hk, Or.inr ⟨rfl, rfl, rfl⟩, rfl⟩
  · rw [List.pairwise_append]
    refine ⟨h.srt, List.pairwise_singleton _ _, fun a ha b hb => ?_⟩
    rw [List.mem_singleton.1 hb]
    obtain ⟨f', o', k', a1, b1, c1, d1, rfl⟩ := h.all a ha
    have := hlt f' o' k' a1 b1 c1 d1
    unfold ltM mk29
    simp only
    omega
  · rcases d with d | ⟨rfl, rfl, rfl⟩
    · exact List.mem_append.2 (Or.inl (h.has f' o' k' a b c d))
    · exact List.mem_append.2 (Or.inr (List.mem_singleton.2 rfl))
section
variable {n : Nat} {has q : List Int} {t : List (List Int)}
theorem orT {f o : Nat} (hf : f < n) (ho : o < n) (hov : overB has q f) : ∀ (m : Nat), m ≤ n → ∀ (s : List (List Int) × List S29) (D : Nat → Nat → Nat → Prop), Lst n D s.2 → (∀ f' o' k', f' < n → o' < n → k' < n → D f' o' k' → f' < f ∨ (f' = f ∧ o' < o)) →
    Lst n (fun f' o' k' => D f' o' k' ∨ (f' = f ∧ o' = o ∧ k' < m ∧ okM has q f' o' k')) (A.sTto n has q f o s m).2 := by
  intro m
  induction m with
  | zero => intro _ s D h _; exact h.congr (fun f' o' k' _ _ _ => ⟨Or.inl, fun e => e.elim id (fun e => by omega)⟩)
  | succ m ih =>
    intro hm s D h hD
    have h1 := ih (by omega) s D h hD
    rw [A.sTto, A.sT]
    by_cases c : (o : Int) ≠ (f : Int) ∧ (m : Int) ≠ (f : Int) ∧ (m : Int) ≠ (o : Int) ∧ rd has m ≤ rd q m
    · rw [if_pos c]
      have hok : okM has q f o m := ⟨hov, by omega, by omega, by omega, by unfold overB; omega⟩
      refine (h1.snoc f o m hf ho (by omega) (fun f' o' k' a b c' d => ?_)).congr (fun f' o' k' a b c' => ?_)
      · rcases d with d | d
        · have := hD f' o' k' a b c' d; omega
        · omega
      · constructor
        · rintro ((d | d) | ⟨rfl, rfl, rfl⟩)
          · exact Or.inl d
          · exact Or.inr ⟨d.1, d.2.1, by omega, d.2.2.2⟩
          · exact Or.inr ⟨rfl, rfl, by omega, hok⟩
        · rintro (d | ⟨rfl, rfl, d3, d4⟩)
          · exact Or.inl (Or.inl d)
          · by_cases e : k' = m
            · exact Or.inr ⟨rfl, rfl, e⟩
            · exact Or.inl (Or.inr ⟨rfl, rfl, by omega, d4⟩)
    · rw [if_neg c]
      refine h1.congr (fun f' o' k' a b c' => ?_)
      constructor
      · rintro (d | d)
        · exact Or.inl d
        · exact Or.inr ⟨d.1, d.2.1, by omega, d.2.2.2⟩
      · rintro (d | ⟨rfl, rfl, d3, d4⟩)
        · exact Or.inl d
        · by_cases e : k' = m
          · subst e
            obtain ⟨_, b1, b2, b3, b4⟩ := d4
            unfold overB at b4
            exact absurd ⟨by omega, by omega, by omega, by omega⟩ c
          · exact Or.inr ⟨rfl, rfl, by omega, d4⟩
theorem orO {f : Nat} (hf : f < n) (hov : overB has q f) : ∀ (m : Nat), m ≤ n → ∀ (s : List (List Int) × List S29) (D : Nat → Nat → Nat → Prop), Lst n D s.2 → (∀ f' o' k', f' < n → o' < n → k' < n → D f' o' k' → f' < f) →
    Lst n (fun f' o' k' => D f' o' k' ∨ (f' = f ∧ o' < m ∧ okM has q f' o' k')) (A.sOto n has q t f s m).2 := by
  intro m
  induction m with
  | zero => intro _ s D h _; exact h.congr (fun f' o' k' _ _ _ => ⟨Or.inl, fun e => e.elim id (fun e => by omega)⟩)
  | succ m ih =>
    intro hm s D h hD
    have h1 := ih (by omega) s D h hD
    rw [A.sOto, A.sO]
    refine (orT hf (show m < n by omega) hov n (Nat.le_refl _) (A.upd (A.sOto n has q t f s m).1 (A.nodeH f) (A.nodeP n f m) (A.get t f m), (A.sOto n has q t f s m).2) _ h1 (fun f' o' k' a b c d => ?_)).congr (fun f' o' k' a b c => ?_)
    · rcases d with d | d
      · have := hD f' o' k' a b c d; omega
      · omega
    · constructor
      · rintro ((d | d) | ⟨rfl, rfl, d3, d4⟩)
        · exact Or.inl d
        · exact Or.inr ⟨d.1, by omega, d.2.2⟩
        · exact Or.inr ⟨rfl, by omega, d4⟩
      · rintro (d | ⟨rfl, d2, d4⟩)
        · exact Or.inl (Or.inl d)
        · by_cases e : o' = m
          · exact Or.inr ⟨rfl, e, c, d4⟩
          · exact Or.inl (Or.inr ⟨rfl, by omega, d4⟩)
theorem orF : ∀ (m : Nat), m ≤ n → ∀ (s : List (List Int) × Int × List S29), s.2.2 = [] → Lst n (fun f' o' k' => f' < m ∧ okM has q f' o' k') (A.sFto n has q t s m).2.2 := by
  intro m
  induction m with
  | zero =>
    intro _ s hs
    rw [A.sFto, hs]
    exact ⟨fun m hm => (by cases hm), List.Pairwise.nil, fun f o k _ _ _ d => by omega⟩
  | succ m ih =>
    intro hm s hs
    have h1 := ih (by omega) s hs
    rw [A.sFto, A.sF]
    by_cases c : rd has m ≤ rd q m
    · rw [if_pos c]
      have hno : ¬ overB has q m := by unfold overB; omega
      refine h1.congr (fun f' o' k' _ _ _ => ⟨fun e => ⟨by omega, e.2⟩, fun e => ⟨?_, e.2⟩⟩)
      by_cases e2 : f' = m
      · subst e2; exact absurd e.2.1 hno
      · omega
    · rw [if_neg c]
      have hov : overB has q m := by unfold overB; omega
      refine (orO (t := t) (show m < n by omega) hov n (Nat.le_refl _) (A.upd (A.sFto n has q t s m).1 0 (A.nodeH m) (wrap64 (rd has m - rd q m)), (A.sFto n has q t s m).2.2) _ h1 (fun f' o' k' _ _ _ d => d.1)).congr (fun f' o' k' _ ho _ => ?_)
      constructor
      · rintro (d | ⟨rfl, _, d3⟩)
        · exact ⟨by omega, d.2⟩
        · exact ⟨by omega, d3⟩
      · rintro ⟨d1, d2⟩
        by_cases e2 : f' = m
        · exact Or.inr ⟨e2, ho, d2⟩
        · exact Or.inl ⟨by omega, d2⟩
end
theorem order_ok (t : List (List Int)) (q : List Int) : Lst t.length (fun f o k => okM (A.heldT t) q f o k) (A.buildNet t q).2.2 :=
  (orF (n := t.length) (has := A.heldT t) (q := q) (t := t) t.length (Nat.le_refl _) (A.zeroNet t.length, 0, []) rfl).congr (fun f o k hf _ _ => ⟨fun e => e.2, fun e => ⟨hf, e⟩⟩)

/-! ### amounts, summed -/
def bump (M : Nat → Nat → Nat → Int) (h o0 kk : Nat) (x : Int) (f o k : Nat) : Int := M f o k + (if f = h ∧ o = o0 ∧ k = kk then x else 0)
theorem bump_row (M : Nat → Nat → Nat → Int) {n h o0 kk : Nat} (x : Int) (hk : kk < n) (f o : Nat) : isum (bump M h o0 kk x f o) n = isum (M f o) n + (if f = h ∧ o = o0 then x else 0) := by
  have : isum (bump M h o0 kk x f o) n = isum (fun k => M f o k + (if f = h ∧ o = o0 ∧ k = kk then x else 0)) n := rfl
  rw [this, isum_add]
  congr 1
  by_cases c : f = h ∧ o = o0
  · rw [if_pos c, isum_congr (g := fun k => if k = kk then x else 0) (fun k _ => by simp [c.1, c.2]), isum_pt, if_pos hk]
  · rw [if_neg c, isum_congr (g := fun _ => 0) (fun k _ => by rw [if_neg (fun e => c ⟨e.1, e.2.1⟩)]), isum_zero]
theorem bump_col (M : Nat → Nat → Nat → Int) {n h o0 kk : Nat} (x : Int) (hh : h < n) (o d : Nat) : isum (fun f => bump M h o0 kk x f o d) n = isum (fun f => M f o d) n + (if o = o0 ∧ d = kk then x else 0) := by
  have : isum (fun f => bump M h o0 kk x f o d) n = isum (fun f => M f o d + (if f = h ∧ o = o0 ∧ d = kk then x else 0)) n := rfl
  rw [this, isum_add]
  congr 1
  by_cases c : o = o0 ∧ d = kk
  · rw [if_pos c, isum_congr (g := fun f => if f = h then x else 0) (fun k _ => by simp [c.1, c.2]), isum_pt, if_pos hh]
  · rw [if_neg c, isum_congr (g := fun _ => 0) (fun k _ => by rw [if_neg (fun e => c ⟨e.2.1, e.2.2⟩)]), isum_zero]
theorem bump_take (M : Nat → Nat → Nat → Int) {n h o0 kk : Nat} (x : Int) (hh : h < n) (ho : o0 < n) (d : Nat) : isum (fun f => isum (fun o => bump M h o0 kk x f o d) n) n = isum (fun f => isum (fun o => M f o d) n) n + (if d = kk then x else 0) := by
  rw [isum_swap (fun f o => bump M h o0 kk x f o d), isum_swap (fun f o => M f o d), isum_congr (fun o _ => bump_col M x hh o d), isum_add]
  congr 1
  by_cases c : d = kk
  · rw [if_pos c, isum_congr (g := fun o => if o = o0 then x else 0) (fun o _ => by simp [c]), isum_pt, if_pos ho]
  · rw [if_neg c, isum_congr (g := fun _ => 0) (fun f _ => by rw [if_neg (fun e => c e.2)]), isum_zero]

/-! ### taking an edge out -/
theorem drop_edge {N : Nat} {M : Int} {g : List (List Int)} (h : Net N M g) (hM : 0 ≤ M) (x y : Nat) (hx : x < N) (hy : y < N) (hxy : x ≠ y) :
    Net N M (A.upd (A.upd g x y 0) y x 0) ∧ (∀ a b : Nat, A.get (A.upd (A.upd g x y 0) y x 0) a b = if (a = x ∧ b = y) ∨ (a = y ∧ b = x) then 0 else A.get g a b) ∧
      (∀ u : Nat, u < N → R N (A.upd (A.upd g x y 0) y x 0) u = R N g u - (if u = x then A.get g x y else 0) - (if u = y then A.get g y x else 0)) := by
  have s1 : A.Sqn N (A.upd g x y 0) := h.sq.upd _ _ _
  have g1 : ∀ a b : Nat, A.get (A.upd g x y 0) a b = if a = x ∧ b = y then 0 else A.get g a b := fun a b => by
    rw [A.get_upd h.sq x y 0 a b (by omega) (by omega) (by omega) (by omega) (by omega) (by omega)]
    simp only [Int.natCast_inj]
  have hg : ∀ a b : Nat, A.get (A.upd (A.upd g x y 0) y x 0) a b = if (a = x ∧ b = y) ∨ (a = y ∧ b = x) then 0 else A.get g a b := fun a b => by
    rw [A.get_upd s1 y x 0 a b (by omega) (by omega) (by omega) (by omega) (by omega) (by omega), g1]
    simp only [Int.natCast_inj]
    by_cases c1 : a = y ∧ b = x
    · rw [if_pos c1, if_pos (Or.inr c1)]
    · rw [if_neg c1]
      by_cases c2 : a = x ∧ b = y
      · rw [if_pos c2, if_pos (Or.inl c2)]
      · rw [if_neg c2, if_neg (fun e => e.elim c2 c1)]
  refine ⟨⟨s1.upd _ _ _, fun a b ha hb => ?_, fun a b ha hb => ?_⟩, hg, fun u hu => ?_⟩
  · rw [hg]
    have := h.low a b ha hb
    split <;> omega
  · rw [hg, hg]
    have h1 := h.sum a b ha hb
    have h2 := h.low a b ha hb
    have h3 := h.low b a hb ha
    split <;> split <;> omega
  · have e : A.get (A.upd g x y 0) y x = A.get g y x := by rw [g1, if_neg (fun e => hxy e.1.symm)]
    rw [R_upd s1 y x hy hx 0 u hu, R_upd h.sq x y hx hy 0 u hu, e]
    split <;> split <;> omega

/-! ### the second phase -/
open Classical in
noncomputable def rest (E : Nat → Nat → Nat → Prop) (B : Nat → Nat → Nat → Int) (f o k : Nat) : Int := if E f o k then A.unlim - B f o k else 0
theorem rest_pos {E : Nat → Nat → Nat → Prop} {B : Nat → Nat → Nat → Int} {f o k : Nat} (h : E f o k) : rest E B f o k = A.unlim - B f o k := if_pos h
theorem rest_neg {E : Nat → Nat → Nat → Prop} {B : Nat → Nat → Nat → Int} {f o k : Nat} (h : ¬ E f o k) : rest E B f o k = 0 := if_neg h
open Classical in
/-- g is the network after the moves of E were fixed at the amounts B; out: the moves so far. -/
structure Ph (n : Nat) (has q : List Int) (t : List (List Int)) (R0 : Nd → Int) (g : List (List Int)) (E : Nat → Nat → Nat → Prop) (B : Nat → Nat → Nat → Int) (out : List S29) : Prop where
  net : Net (A.netSize n) 2251799813685248 g
  sums : ∀ x y, Vd n x → Vd n y → A.get g (ix n x) (ix n y) + A.get g (ix n y) (ix n x) = if (∃ f o k, E f o k ∧ ((x = nP f o ∧ y = nT k) ∨ (x = nT k ∧ y = nP f o))) then 0 else cap has q t x y + cap has q t y x
  b0 : ∀ f o k, 0 ≤ B f o k
  bz : ∀ f o k, B f o k ≠ 0 → E f o k
  rS : R (A.netSize n) g (ix n nS) = R0 nS
  rH : ∀ f, f < n → R (A.netSize n) g (ix n (nH f)) = R0 (nH f)
  rT : ∀ k, k < n → R (A.netSize n) g (ix n (nT k)) = R0 (nT k) - isum (fun f => isum (fun o => B f o k) n) n
  rP : ∀ f o, f < n → o < n → R (A.netSize n) g (ix n (nP f o)) = R0 (nP f o) - isum (rest E B f o) n
  oa : ∀ m ∈ out, ∃ f o k, f < n ∧ o < n ∧ k < n ∧ E f o k ∧ 0 < B f o k ∧ m = mk29 f o k (B f o k)
  os : out.Pairwise ltM
  og : ∀ f o : Nat, f < n → o < n → isum (B f o) n = (out.map fun m => if m.f0 = (f : Int) ∧ m.f2 = (o : Int) then m.f3 else 0).sum
  ot : ∀ k o : Nat, k < n → o < n → isum (fun f => B f o k) n = (out.map fun m => if m.f1 = (k : Int) ∧ m.f2 = (o : Int) then m.f3 else 0).sum
open Classical in
theorem Ph.step {n : Nat} {has q : List Int} {t : List (List Int)} {R0 : Nd → Int} {g : List (List Int)} {E : Nat → Nat → Nat → Prop} {B : Nat → Nat → Nat → Int} {out : List S29} (h : Ph n has q t R0 g E B out)
    {f o k : Nat} (hf : f < n) (ho : o < n) (hk : k < n) (hok : okM has q f o k) (hE : ¬ E f o k) (hlt : ∀ f' o' k', E f' o' k' → f' < f ∨ (f' = f ∧ (o' < o ∨ (o' = o ∧ k' < k)))) :
    ∃ b, 0 ≤ b ∧ (A.settleStep n (g, out) (mk29 f o k 0)).2 = (if 0 < b then out ++ [mk29 f o k b] else out) ∧
      Ph n has q t R0 (A.settleStep n (g, out) (mk29 f o k 0)).1 (fun f' o' k' => E f' o' k' ∨ (f' = f ∧ o' = o ∧ k' = k)) (bump B f o k b) (A.settleStep n (g, out) (mk29 f o k 0)).2 := by
  have hxP := ix_lt (vP hf ho)
  have hxT := ix_lt (vT hk)
  have hne : ix n (nP f o) ≠ ix n (nT k) := fun e => by have := ix_inj (vP hf ho) (vT hk) e; simp [nP, nT] at this
  have eP : A.nodeP n (f : Int) (o : Int) = ((ix n (nP f o) : Nat) : Int) := by rw [ixP]; unfold A.nodeP; push_cast; rfl
  have eT : A.nodeT n (k : Int) = ((ix n (nT k) : Nat) : Int) := by rw [ixT]; unfold A.nodeT; push_cast; rfl
  have hsum : A.get g (ix n (nP f o)) (ix n (nT k)) + A.get g (ix n (nT k)) (ix n (nP f o)) = A.unlim := by
    rw [h.sums _ _ (vP hf ho) (vT hk), if_neg, capPT has q t f o k hok]
    · have : cap has q t (nT k) (nP f o) = 0 := by unfold cap nT nP; simp
      rw [this]; omega
    · rintro ⟨f', o', k', e, ⟨e1, e2⟩ | ⟨e1, e2⟩⟩
      · simp only [nP, nT, Prod.mk.injEq, true_and, and_true] at e1 e2
        obtain ⟨rfl, rfl⟩ := e1
        subst e2
        exact hE e
      · simp [nP, nT] at e1
  have hl1 := h.net.low _ _ hxP hxT
  have hl2 := h.net.low _ _ hxT hxP
  obtain ⟨d1, d2, d3⟩ := drop_edge h.net (by omega) _ _ hxP hxT hne
  have hu : A.unlim = 1125899906842624 := rfl
  obtain ⟨v, v0, v1, v2, v3, v4⟩ := flow (N := A.netSize n) (M := 2251799813685248) (by omega) (ix n (nT k)) (ix n (nP f o)) hxT hxP (Ne.symm hne) A.unlim A.unlim.toNat _ 0 d1 (Int.le_refl _) (by omega) (by omega)
  have eb : wrap64 (A.get g (ix n (nT k)) (ix n (nP f o)) + (A.flowG (ix n (nT k)) (ix n (nP f o)) A.unlim A.unlim.toNat (A.upd (A.upd g (ix n (nP f o)) (ix n (nT k)) 0) (ix n (nT k)) (ix n (nP f o)) 0) 0).2) = A.get g (ix n (nT k)) (ix n (nP f o)) + v := by
    rw [v1, w64 (by omega)]; omega
  obtain ⟨b, hb⟩ : ∃ b, b = A.get g (ix n (nT k)) (ix n (nP f o)) + v := ⟨_, rfl⟩
  have hb0 : 0 ≤ b := by omega
  have e1 : (A.settleStep n (g, out) (mk29 f o k 0)).1 = (A.flowG (ix n (nT k)) (ix n (nP f o)) A.unlim A.unlim.toNat (A.upd (A.upd g (ix n (nP f o)) (ix n (nT k)) 0) (ix n (nT k)) (ix n (nP f o)) 0) 0).1 := by
    unfold A.settleStep mk29
    simp only
    rw [eP, eT]
  have e2 : (A.settleStep n (g, out) (mk29 f o k 0)).2 = (if 0 < b then out ++ [mk29 f o k b] else out) := by
    unfold A.settleStep mk29
    simp only
    rw [eP, eT, eb, ← hb]
  have hBz : B f o k = 0 := by
    by_cases e : B f o k = 0
    · exact e
    · exact absurd (h.bz f o k e) hE
  refine ⟨b, hb0, e2, ?_⟩
  rw [e1, e2]
  generalize (A.flowG (ix n (nT k)) (ix n (nP f o)) A.unlim A.unlim.toNat (A.upd (A.upd g (ix n (nP f o)) (ix n (nT k)) 0) (ix n (nT k)) (ix n (nP f o)) 0) 0).1 = g' at v3
  have bkk : bump B f o k b f o k = b := by unfold bump; rw [if_pos ⟨rfl, rfl, rfl⟩, hBz]; omega
  have bne : ∀ f' o' k', ¬ (f' = f ∧ o' = o ∧ k' = k) → bump B f o k b f' o' k' = B f' o' k' := fun f' o' k' c => by unfold bump; rw [if_neg c]; omega
  refine ⟨v3.net, fun x y hx hy => ?_, fun f' o' k' => ?_, fun f' o' k' hne' => ?_, ?_, fun f' a => ?_, fun k' a => ?_, fun f' o' a a' => ?_, fun m hm => ?_, ?_, fun f' o' a a' => ?_, fun k' o' a a' => ?_⟩
  · rw [v3.same _ _ (ix_lt hx) (ix_lt hy), d2, d2]
    by_cases c : (x = nP f o ∧ y = nT k) ∨ (x = nT k ∧ y = nP f o)
    · rw [if_pos (show ∃ f' o' k', (E f' o' k' ∨ (f' = f ∧ o' = o ∧ k' = k)) ∧ ((x = nP f' o' ∧ y = nT k') ∨ (x = nT k' ∧ y = nP f' o')) from ⟨f, o, k, Or.inr ⟨rfl, rfl, rfl⟩, c⟩)]
      rcases c with ⟨rfl, rfl⟩ | ⟨rfl, rfl⟩
      · rw [if_pos (Or.inl ⟨rfl, rfl⟩), if_pos (Or.inr ⟨rfl, rfl⟩)]; rfl
      · rw [if_pos (Or.inr ⟨rfl, rfl⟩), if_pos (Or.inl ⟨rfl, rfl⟩)]; rfl
    · have c' : ∀ x y : Nd, Vd n x → Vd n y → ¬ ((x = nP f o ∧ y = nT k) ∨ (x = nT k ∧ y = nP f o)) → ¬ ((ix n x = ix n (nP f o) ∧ ix n y = ix n (nT k)) ∨ (ix n x = ix n (nT k) ∧ ix n y = ix n (nP f o))) := fun x y hx hy c e => by
        rcases e with ⟨e1, e2⟩ | ⟨e1, e2⟩
        · exact c (Or.inl ⟨ix_inj hx (vP hf ho) e1, ix_inj hy (vT hk) e2⟩)
        · exact c (Or.inr ⟨ix_inj hx (vT hk) e1, ix_inj hy (vP hf ho) e2⟩)
      rw [if_neg (c' x y hx hy c), if_neg (c' y x hy hx (fun e => c (e.elim (fun e => Or.inr ⟨e.2, e.1⟩) (fun e => Or.inl ⟨e.2, e.1⟩)))), h.sums x y hx hy]
      by_cases d : ∃ f o k, E f o k ∧ ((x = nP f o ∧ y = nT k) ∨ (x = nT k ∧ y = nP f o))
      · obtain ⟨f', o', k', e, e'⟩ := d
        rw [if_pos ⟨f', o', k', e, e'⟩, if_pos ⟨f', o', k', Or.inl e, e'⟩]
      · rw [if_neg d, if_neg]
        rintro ⟨f', o', k', e | ⟨rfl, rfl, rfl⟩, e'⟩
        · exact d ⟨f', o', k', e, e'⟩
        · exact c e'
  · have := h.b0 f' o' k'
    unfold bump
    split <;> omega
  · by_cases c : f' = f ∧ o' = o ∧ k' = k
    · exact Or.inr c
    · exact Or.inl (h.bz f' o' k' (by rw [← bne f' o' k' c]; exact hne'))
  · rw [v3.row _ (ix_lt (vS n)), d3 _ (ix_lt (vS n)), if_neg (fun e => by have := ix_inj (vS n) (vP hf ho) e; simp [nS, nP] at this), if_neg (fun e => by have := ix_inj (vS n) (vT hk) e; simp [nS, nT] at this), if_neg (fun e => by have := ix_inj (vS n) (vT hk) e; simp [nS, nT] at this), if_neg (fun e => by have := ix_inj (vS n) (vP hf ho) e; simp [nS, nP] at this), h.rS]; omega
  · rw [v3.row _ (ix_lt (vH a)), d3 _ (ix_lt (vH a)), if_neg (fun e => by have := ix_inj (vH a) (vP hf ho) e; simp [nH, nP] at this), if_neg (fun e => by have := ix_inj (vH a) (vT hk) e; simp [nH, nT] at this), if_neg (fun e => by have := ix_inj (vH a) (vT hk) e; simp [nH, nT] at this), if_neg (fun e => by have := ix_inj (vH a) (vP hf ho) e; simp [nH, nP] at this), h.rH f' a]; omega
  · rw [v3.row _ (ix_lt (vT a)), d3 _ (ix_lt (vT a)), if_neg (show ¬ ix n (nT k') = ix n (nP f o) from fun e => by have := ix_inj (vT a) (vP hf ho) e; simp [nT, nP] at this), if_neg (show ¬ ix n (nT k') = ix n (nP f o) from fun e => by have := ix_inj (vT a) (vP hf ho) e; simp [nT, nP] at this), h.rT k' a, bump_take B b hf ho k']
    by_cases c : k' = k
    · subst c
      rw [if_pos rfl, if_pos rfl, if_pos rfl]; omega
    · have : ¬ ix n (nT k') = ix n (nT k) := fun e => by
        have := ix_inj (vT a) (vT hk) e
        simp only [nT, Prod.mk.injEq, true_and, and_true] at this
        exact c this
      rw [if_neg this, if_neg this, if_neg c]; omega
  · rw [v3.row _ (ix_lt (vP a a')), d3 _ (ix_lt (vP a a')), if_neg (show ¬ ix n (nP f' o') = ix n (nT k) from fun e => by have := ix_inj (vP a a') (vT hk) e; simp [nT, nP] at this), if_neg (show ¬ ix n (nP f' o') = ix n (nT k) from fun e => by have := ix_inj (vP a a') (vT hk) e; simp [nT, nP] at this), h.rP f' o' a a']
    by_cases c : f' = f ∧ o' = o
    · obtain ⟨rfl, rfl⟩ := c
      have es : isum (rest (fun f'' o'' k' => E f'' o'' k' ∨ (f'' = f' ∧ o'' = o' ∧ k' = k)) (bump B f' o' k b) f' o') n = isum (fun k' => rest E B f' o' k' + (if k' = k then A.unlim - b else 0)) n := by
        refine isum_congr (fun k' _ => ?_)
        by_cases e : k' = k
        · subst e
          rw [rest_pos (Or.inr ⟨rfl, rfl, rfl⟩), rest_neg hE, if_pos rfl, bkk]; omega
        · rw [if_neg e]
          by_cases z : E f' o' k'
          · rw [rest_pos (Or.inl z), rest_pos z, bne f' o' k' (fun z => e z.2.2)]; omega
          · rw [rest_neg (fun y => y.elim z (fun y => e y.2.2)), rest_neg z]; rfl
      rw [es, isum_add, isum_pt, if_pos hk, if_pos rfl, if_pos rfl]
      omega
    · have : ¬ ix n (nP f' o') = ix n (nP f o) := fun e => by
        have := ix_inj (vP a a') (vP hf ho) e
        simp only [nP, Prod.mk.injEq, true_and] at this
        exact c this
      rw [if_neg this, if_neg this]
      have es : isum (rest (fun f'' o'' k' => E f'' o'' k' ∨ (f'' = f ∧ o'' = o ∧ k' = k)) (bump B f o k b) f' o') n = isum (rest E B f' o') n := by
        refine isum_congr (fun k' _ => ?_)
        by_cases z : E f' o' k'
        · rw [rest_pos (Or.inl z), rest_pos z, bne f' o' k' (fun z => c ⟨z.1, z.2.1⟩)]
        · rw [rest_neg (fun y => y.elim z (fun y => c ⟨y.1, y.2.1⟩)), rest_neg z]
      rw [es]; omega
  · have old : ∀ m ∈ out, ∃ f' o' k', f' < n ∧ o' < n ∧ k' < n ∧ (E f' o' k' ∨ (f' = f ∧ o' = o ∧ k' = k)) ∧ 0 < bump B f o k b f' o' k' ∧ m = mk29 f' o' k' (bump B f o k b f' o' k') := fun m hm => by
      obtain ⟨f', o', k', a1, a2, a3, a4, a5, a6⟩ := h.oa m hm
      have : ¬ (f' = f ∧ o' = o ∧ k' = k) := fun z => hE (by rw [← z.1, ← z.2.1, ← z.2.2]; exact a4)
      exact ⟨f', o', k', a1, a2, a3, Or.inl a4, by rw [bne f' o' k' this]; exact a5, by rw [bne f' o' k' this]; exact a6⟩
    by_cases c : 0 < b
    · rw [if_pos c] at hm
      rcases List.mem_append.1 hm with hm | hm
      · exact old m hm
      · rw [List.mem_singleton.1 hm]
        exact ⟨f, o, k, hf, ho, hk, Or.inr ⟨rfl, rfl, rfl⟩, by rw [bkk]; exact c, by rw [bkk]⟩
    · rw [if_neg c] at hm
      exact old m hm
  · by_cases c : 0 < b
    · rw [if_pos c, List.pairwise_append]
      refine ⟨h.os, List.pairwise_singleton _ _, fun a ha b' hb' => ?_⟩
      rw [List.mem_singleton.1 hb']
      obtain ⟨f', o', k', a1, a2, a3, a4, a5, rfl⟩ := h.oa a ha
      have := hlt f' o' k' a4
      unfold ltM mk29
      simp only
      omega
    · rw [if_neg c]; exact h.os
  · rw [bump_row B b hk f' o', h.og f' o' a a']
    by_cases c : 0 < b
    · rw [if_pos c, List.map_append, List.sum_append]
      simp only [List.map_cons, List.map_nil, List.sum_cons, List.sum_nil, mk29, Int.natCast_inj]
      by_cases e : f' = f ∧ o' = o
      · rw [if_pos e, if_pos ⟨e.1.symm, e.2.symm⟩]; omega
      · rw [if_neg e, if_neg (fun z => e ⟨z.1.symm, z.2.symm⟩)]; omega
    · rw [if_neg c]
      have : b = 0 := by omega
      rw [this]; split <;> omega
  · rw [bump_col B b hf o' k', h.ot k' o' a a']
    by_cases c : 0 < b
    · rw [if_pos c, List.map_append, List.sum_append]
      simp only [List.map_cons, List.map_nil, List.sum_cons, List.sum_nil, mk29, Int.natCast_inj]
      by_cases e : o' = o ∧ k' = k
      · rw [if_pos e, if_pos ⟨e.2.symm, e.1.symm⟩]; omega
      · rw [if_neg e, if_neg (fun z => e ⟨z.2.symm, z.1.symm⟩)]; omega
    · rw [if_neg c]
      have : b = 0 := by omega
      rw [this]; split <;> omega
end Go.Proofs.Ytdljbmgknhbceaa.P
