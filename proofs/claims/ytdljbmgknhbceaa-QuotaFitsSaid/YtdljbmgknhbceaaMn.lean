import Derived.Test.YtdljbmgknhbceaaMf
namespace Go.Proofs.Ytdljbmgknhbceaa.P
open Go.RowKit Go.Proofs.YtdljbmgknhbceaaW.PrintWords Go.Proofs.Ytdljbmgknhbceaa.Q
set_option linter.unusedVariables false
set_option linter.unusedSimpArgs false
set_option linter.unusedSectionVars false

/-! ### the nodes of Settle's network -/
abbrev Nd : Type := Nat × Nat × Nat
def nS : Nd := (0, 0, 0)
def nE : Nd := (1, 0, 0)
def nH (f : Nat) : Nd := (2, f, 0)
def nT (k : Nat) : Nd := (3, k, 0)
def nP (f o : Nat) : Nd := (4, f, o)
def ix (n : Nat) (x : Nd) : Nat := if x.1 = 0 then 0 else if x.1 = 1 then 1 else if x.1 = 2 then 2 + x.2.1 else if x.1 = 3 then 2 + n + x.2.1 else 2 + 2 * n + x.2.1 * n + x.2.2
def Vd (n : Nat) (x : Nd) : Prop := x = nS ∨ x = nE ∨ (∃ f, f < n ∧ x = nH f) ∨ (∃ k, k < n ∧ x = nT k) ∨ (∃ f o, f < n ∧ o < n ∧ x = nP f o)
theorem vS (n : Nat) : Vd n nS := Or.inl rfl
theorem vE (n : Nat) : Vd n nE := Or.inr (Or.inl rfl)
theorem vH {n f : Nat} (h : f < n) : Vd n (nH f) := Or.inr (Or.inr (Or.inl ⟨f, h, rfl⟩))
theorem vT {n k : Nat} (h : k < n) : Vd n (nT k) := Or.inr (Or.inr (Or.inr (Or.inl ⟨k, h, rfl⟩)))
theorem vP {n f o : Nat} (h : f < n) (h' : o < n) : Vd n (nP f o) := Or.inr (Or.inr (Or.inr (Or.inr ⟨f, o, h, h', rfl⟩)))
theorem ixS (n : Nat) : ix n nS = 0 := rfl
theorem ixE (n : Nat) : ix n nE = 1 := rfl
theorem ixH (n f : Nat) : ix n (nH f) = 2 + f := rfl
theorem ixT (n k : Nat) : ix n (nT k) = 2 + n + k := rfl
theorem ixP (n f o : Nat) : ix n (nP f o) = 2 + 2 * n + f * n + o := rfl
theorem cell_lt {n f o : Nat} (hf : f < n) (ho : o < n) : f * n + o < n * n := by
  have h1 : (f + 1) * n ≤ n * n := Nat.mul_le_mul_right n hf
  rw [Nat.add_mul, Nat.one_mul] at h1
  omega
theorem cell_inj {n f o f' o' : Nat} (ho : o < n) (ho' : o' < n) (h : f * n + o = f' * n + o') : f = f' ∧ o = o' := by
  have key : ∀ a b c d : Nat, c < n → d < n → a < b → a * n + c ≠ b * n + d := fun a b c d hc hd hab e => by
    have h1 : (a + 1) * n ≤ b * n := Nat.mul_le_mul_right n hab
    rw [Nat.add_mul, Nat.one_mul] at h1
    omega
  by_cases c1 : f < f'
  · exact absurd h (key f f' o o' ho ho' c1)
  · by_cases c2 : f' < f
    · exact absurd h.symm (key f' f o' o ho' ho c2)
    · obtain rfl : f = f' := by omega
      exact ⟨rfl, by omega⟩
theorem ix_lt {n : Nat} {x : Nd} (h : Vd n x) : ix n x < A.netSize n := by
  have hz : A.netSize n = 2 + 2 * n + n * n := rfl
  rcases h with rfl | rfl | ⟨f, hf, rfl⟩ | ⟨k, hk, rfl⟩ | ⟨f, o, hf, ho, rfl⟩
  · rw [ixS]; omega
  · rw [ixE]; omega
  · rw [ixH]; omega
  · rw [ixT]; omega
  · have := cell_lt hf ho
    rw [ixP]; omega
theorem ix_inj {n : Nat} {x y : Nd} (h : Vd n x) (h' : Vd n y) (e : ix n x = ix n y) : x = y := by
  rcases h with rfl | rfl | ⟨f, hf, rfl⟩ | ⟨k, hk, rfl⟩ | ⟨f, o, hf, ho, rfl⟩ <;>
  rcases h' with rfl | rfl | ⟨f', hf', rfl⟩ | ⟨k', hk', rfl⟩ | ⟨f', o', hf', ho', rfl⟩ <;>
  simp only [ixS, ixE, ixH, ixT, ixP] at e <;>
  first
  | rfl
  | omega
  | (obtain rfl : f = f' := by omega
     rfl)
  | (obtain rfl : k = k' := by omega
     rfl)
  | (obtain ⟨rfl, rfl⟩ := cell_inj (n := n) (f := f) (f' := f') ho ho' (by omega)
     rfl)

/-! ### sums over the nodes -/
theorem isum_split (f : Nat → Int) (a : Nat) : ∀ b, isum f (a + b) = isum f a + isum (fun i => f (a + i)) b := by
  intro b
  induction b with
  | zero => simp [isum]
  | succ b ih =>
    have e : isum f (a + (b + 1)) = isum f (a + b) + f (a + b) := rfl
    rw [e, ih, isum]; omega
theorem isum_cells (f : Nat → Int) (n : Nat) : ∀ m, isum f (m * n) = isum (fun i => isum (fun j => f (i * n + j)) n) m := by
  intro m
  induction m with
  | zero => simp [isum]
  | succ m ih => rw [Nat.add_mul, Nat.one_mul, isum_split, ih, isum]
def sumN (n : Nat) (φ : Nd → Int) : Int := φ nS + φ nE + isum (fun f => φ (nH f)) n + isum (fun k => φ (nT k)) n + isum (fun f => isum (fun o => φ (nP f o)) n) n
theorem isum_nodes (n : Nat) (F : Nat → Int) : isum F (A.netSize n) = sumN n (fun x => F (ix n x)) := by
  have hz : A.netSize n = 2 + (n + (n + n * n)) := by unfold A.netSize; omega
  have h2 : ∀ G : Nat → Int, isum G 2 = G 0 + G 1 := fun G => by simp [isum]
  rw [hz, isum_split F 2, isum_split (fun i => F (2 + i)) n, isum_split (fun i => F (2 + (n + i))) n, isum_cells (fun i => F (2 + (n + (n + i)))) n n, h2]
  unfold sumN
  simp only [ixS, ixE, ixH, ixT, ixP]
  have e1 : isum (fun i => F (2 + (n + i))) n = isum (fun k => F (2 + n + k)) n := isum_congr (fun i _ => by rw [Nat.add_assoc])
  have e2 : isum (fun i => isum (fun j => F (2 + (n + (n + (i * n + j))))) n) n = isum (fun f => isum (fun o => F (2 + 2 * n + f * n + o)) n) n := isum_congr (fun i _ => isum_congr (fun j _ => by rw [show 2 + (n + (n + (i * n + j))) = 2 + 2 * n + i * n + j from by omega]))
  rw [e1, e2]; omega
theorem sumN_congr {n : Nat} {φ ψ : Nd → Int} (h : ∀ x, Vd n x → φ x = ψ x) : sumN n φ = sumN n ψ := by
  unfold sumN
  rw [h nS (vS n), h nE (vE n), isum_congr (fun f hf => h (nH f) (vH hf)), isum_congr (fun k hk => h (nT k) (vT hk)), isum_congr (fun f hf => isum_congr (fun o ho => h (nP f o) (vP hf ho)))]
theorem sumN_add (n : Nat) (φ ψ : Nd → Int) : sumN n (fun x => φ x + ψ x) = sumN n φ + sumN n ψ := by
  unfold sumN
  rw [isum_add, isum_add, isum_congr (fun f _ => isum_add (fun o => φ (nP f o)) (fun o => ψ (nP f o)) n), isum_add]; simp only; omega
theorem sumN_sub (n : Nat) (φ ψ : Nd → Int) : sumN n (fun x => φ x - ψ x) = sumN n φ - sumN n ψ := by
  unfold sumN
  rw [isum_sub, isum_sub, isum_congr (fun f _ => isum_sub (fun o => φ (nP f o)) (fun o => ψ (nP f o)) n), isum_sub]; simp only; omega
theorem node_of {n x : Nat} (h : x < A.netSize n) : ∃ y, Vd n y ∧ ix n y = x := by
  have hz : A.netSize n = 2 + 2 * n + n * n := rfl
  by_cases c0 : x = 0
  · exact ⟨nS, vS n, by rw [ixS, c0]⟩
  by_cases c1 : x = 1
  · exact ⟨nE, vE n, by rw [ixE, c1]⟩
  by_cases c2 : x < 2 + n
  · exact ⟨nH (x - 2), vH (by omega), by rw [ixH]; omega⟩
  by_cases c3 : x < 2 + n + n
  · exact ⟨nT (x - 2 - n), vT (by omega), by rw [ixT]; omega⟩
  · have hn : 0 < n := by
      rcases Nat.eq_zero_or_pos n with rfl | h
      · omega
      · exact h
    have h1 := Nat.div_add_mod (x - 2 - 2 * n) n
    have h2 := Nat.mod_lt (x - 2 - 2 * n) hn
    have h3 : (x - 2 - 2 * n) / n < n := Nat.div_lt_of_lt_mul (by omega)
    refine ⟨nP ((x - 2 - 2 * n) / n) ((x - 2 - 2 * n) % n), vP h3 h2, ?_⟩
    rw [ixP, Nat.mul_comm ((x - 2 - 2 * n) / n) n]
    omega

/-! ### the network that is built -/
section
variable (n : Nat) (has q : List Int) (t : List (List Int))
def overB (f : Nat) : Prop := rd q f < rd has f
def okM (f o k : Nat) : Prop := overB has q f ∧ o ≠ f ∧ k ≠ f ∧ k ≠ o ∧ ¬ overB has q k
open Classical in
/-- The capacity of an edge. -/
noncomputable def cap (x y : Nd) : Int :=
  if x.1 = 0 then (if y.1 = 2 ∧ overB has q y.2.1 then rd has y.2.1 - rd q y.2.1 else 0)
  else if x.1 = 3 then (if y.1 = 1 ∧ ¬ overB has q x.2.1 then rd q x.2.1 - rd has x.2.1 else 0)
  else if x.1 = 2 then (if y.1 = 4 ∧ x.2.1 = y.2.1 ∧ overB has q x.2.1 then A.get t x.2.1 y.2.2 else 0)
  else if x.1 = 4 then (if y.1 = 3 ∧ okM has q x.2.1 x.2.2 y.2.1 then A.unlim else 0)
  else 0
theorem capSH (f : Nat) (h : overB has q f) : cap has q t nS (nH f) = rd has f - rd q f := by
  unfold cap nS nH; rw [if_pos rfl, if_pos ⟨rfl, h⟩]
theorem capTE (k : Nat) (h : ¬ overB has q k) : cap has q t (nT k) nE = rd q k - rd has k := by
  unfold cap nT nE; rw [if_neg (by simp), if_pos rfl, if_pos ⟨rfl, h⟩]
theorem capHP (f o : Nat) (h : overB has q f) : cap has q t (nH f) (nP f o) = A.get t f o := by
  unfold cap nH nP; rw [if_neg (by simp), if_neg (by simp), if_pos rfl, if_pos ⟨rfl, rfl, h⟩]
theorem capPT (f o k : Nat) (h : okM has q f o k) : cap has q t (nP f o) (nT k) = A.unlim := by
  unfold cap nP nT; rw [if_neg (by simp), if_neg (by simp), if_neg (by simp), if_pos rfl, if_pos ⟨rfl, h⟩]
theorem cap_cases {x y : Nd} (hx : Vd n x) (hy : Vd n y) (h : cap has q t x y ≠ 0) :
    (∃ f, f < n ∧ x = nS ∧ y = nH f ∧ overB has q f) ∨ (∃ k, k < n ∧ x = nT k ∧ y = nE ∧ ¬ overB has q k) ∨ (∃ f o, f < n ∧ o < n ∧ x = nH f ∧ y = nP f o ∧ overB has q f) ∨ (∃ f o k, f < n ∧ o < n ∧ k < n ∧ x = nP f o ∧ y = nT k ∧ okM has q f o k) := by
  rcases hx with rfl | rfl | ⟨f, hf, rfl⟩ | ⟨k, hk, rfl⟩ | ⟨f, o, hf, ho, rfl⟩
  · unfold cap nS at h
    rw [if_pos rfl] at h
    split at h
    · rename_i c
      rcases hy with rfl | rfl | ⟨f', hf', rfl⟩ | ⟨k', hk', rfl⟩ | ⟨f', o', hf', ho', rfl⟩
      · exact absurd c.1 (by simp [nS])
      · exact absurd c.1 (by simp [nE])
      · exact Or.inl ⟨f', hf', rfl, rfl, c.2⟩
      · exact absurd c.1 (by simp [nT])
      · exact absurd c.1 (by simp [nP])
    · exact absurd rfl h
  · unfold cap nE at h
    simp at h
  · unfold cap nH at h
    rw [if_neg (by simp), if_neg (by simp), if_pos rfl] at h
    split at h
    · rename_i c
      rcases hy with rfl | rfl | ⟨f', hf', rfl⟩ | ⟨k', hk', rfl⟩ | ⟨f', o', hf', ho', rfl⟩
      · exact absurd c.1 (by simp [nS])
      · exact absurd c.1 (by simp [nE])
      · exact absurd c.1 (by simp [nH])
      · exact absurd c.1 (by simp [nT])
      · have : f = f' := c.2.1
        subst this
        exact Or.inr (Or.inr (Or.inl ⟨f, o', hf, ho', rfl, rfl, c.2.2⟩))
    · exact absurd rfl h
  · unfold cap nT at h
    rw [if_neg (by simp), if_pos rfl] at h
    split at h
    · rename_i c
      rcases hy with rfl | rfl | ⟨f', hf', rfl⟩ | ⟨k', hk', rfl⟩ | ⟨f', o', hf', ho', rfl⟩
      · exact absurd c.1 (by simp [nS])
      · exact Or.inr (Or.inl ⟨k, hk, rfl, rfl, c.2⟩)
      · exact absurd c.1 (by simp [nH])
      · exact absurd c.1 (by simp [nT])
      · exact absurd c.1 (by simp [nP])
    · exact absurd rfl h
  · unfold cap nP at h
    rw [if_neg (by simp), if_neg (by simp), if_neg (by simp), if_pos rfl] at h
    split at h
    · rename_i c
      rcases hy with rfl | rfl | ⟨f', hf', rfl⟩ | ⟨k', hk', rfl⟩ | ⟨f', o', hf', ho', rfl⟩
      · exact absurd c.1 (by simp [nS])
      · exact absurd c.1 (by simp [nE])
      · exact absurd c.1 (by simp [nH])
      · exact Or.inr (Or.inr (Or.inr ⟨f, o, k', hf, ho, hk', rfl, rfl, c.2⟩))
      · exact absurd c.1 (by simp [nP])
    · exact absurd rfl h
open Classical in
/-- The edges of D have their capacities, the others have 0. -/
def Stt (g : List (List Int)) (D : Nd → Nd → Prop) : Prop := A.Sqn (A.netSize n) g ∧ ∀ x y, Vd n x → Vd n y → A.get g (ix n x) (ix n y) = if D x y then cap has q t x y else 0
variable {n has q t}
theorem Stt.put {g : List (List Int)} {D : Nd → Nd → Prop} (h : Stt n has q t g D) {a b : Nd} (ha : Vd n a) (hb : Vd n b) {v : Int} (hv : v = cap has q t a b) (i j : Int) (hi : i = (ix n a : Int)) (hj : j = (ix n b : Int)) :
    Stt n has q t (A.upd g i j v) (fun x y => D x y ∨ (x = a ∧ y = b)) := by
  subst hi; subst hj
  refine ⟨h.1.upd _ _ _, fun x y hx hy => ?_⟩
  have l1 := ix_lt ha
  have l2 := ix_lt hb
  rw [A.get_upd h.1 _ _ _ _ _ (by omega) (by omega) (by omega) (by omega) (by omega) (by omega), h.2 x y hx hy]
  by_cases c : x = a ∧ y = b
  · obtain ⟨rfl, rfl⟩ := c
    rw [if_pos ⟨rfl, rfl⟩, if_pos (Or.inr ⟨rfl, rfl⟩), hv]
  · rw [if_neg (fun e => c ⟨ix_inj hx ha (by omega), ix_inj hy hb (by omega)⟩)]
    by_cases d : D x y
    · rw [if_pos d, if_pos (Or.inl d)]
    · rw [if_neg d, if_neg (fun e => e.elim d c)]
theorem Stt.congr {g : List (List Int)} {D D' : Nd → Nd → Prop} (h : Stt n has q t g D) (hd : ∀ x y, Vd n x → Vd n y → cap has q t x y ≠ 0 → (D x y ↔ D' x y)) : Stt n has q t g D' := by
  refine ⟨h.1, fun x y hx hy => ?_⟩
  rw [h.2 x y hx hy]
  by_cases c : cap has q t x y = 0
  · rw [c]; split <;> split <;> rfl
  · by_cases d : D x y
    · rw [if_pos d, if_pos ((hd x y hx hy c).1 d)]
    · rw [if_neg d, if_neg (fun e => d ((hd x y hx hy c).2 e))]
theorem stT {f o : Nat} (hf : f < n) (ho : o < n) (hov : overB has q f) : ∀ (m : Nat), m ≤ n → ∀ (s : List (List Int) × List S29) (D : Nd → Nd → Prop), Stt n has q t s.1 D →
    Stt n has q t (A.sTto n has q f o s m).1 (fun x y => D x y ∨ ∃ k, k < m ∧ x = nP f o ∧ y = nT k) := by
  intro m
  induction m with
  | zero => intro _ s D h; exact h.congr (fun x y _ _ _ => ⟨Or.inl, fun e => e.elim id (fun ⟨k, hk, _⟩ => by omega)⟩)
  | succ m ih =>
    intro hm s D h
    have h1 := ih (by omega) s D h
    rw [A.sTto, A.sT]
    by_cases c : (o : Int) ≠ (f : Int) ∧ (m : Int) ≠ (f : Int) ∧ (m : Int) ≠ (o : Int) ∧ rd has m ≤ rd q m
    · rw [if_pos c]
      have hok : okM has q f o m := ⟨hov, by omega, by omega, by omega, by unfold overB; omega⟩
      refine (h1.put (vP hf ho) (vT (show m < n by omega)) (capPT has q t f o m hok).symm _ _ (by rw [ixP]; unfold A.nodeP; push_cast; rfl) (by rw [ixT]; unfold A.nodeT; push_cast; rfl)).congr (fun x y _ _ _ => ?_)
      constructor
      · rintro ((e | ⟨k, hk, e⟩) | e)
        · exact Or.inl e
        · exact Or.inr ⟨k, by omega, e⟩
        · exact Or.inr ⟨m, by omega, e⟩
      · rintro (e | ⟨k, hk, e⟩)
        · exact Or.inl (Or.inl e)
        · by_cases ek : k = m
          · subst ek; exact Or.inr e
          · exact Or.inl (Or.inr ⟨k, by omega, e⟩)
    · rw [if_neg c]
      refine h1.congr (fun x y hx hy hne => ?_)
      constructor
      · rintro (e | ⟨k, hk, e⟩)
        · exact Or.inl e
        · exact Or.inr ⟨k, by omega, e⟩
      · rintro (e | ⟨k, hk, e⟩)
        · exact Or.inl e
        · by_cases ek : k = m
          · subst ek
            exfalso
            obtain ⟨rfl, rfl⟩ := e
            rcases cap_cases n has q t hx hy hne with ⟨_, _, e, _⟩ | ⟨_, _, e, _⟩ | ⟨_, _, _, _, e, _⟩ | ⟨f', o', k', _, _, _, e1, e2, hok⟩
            · simp [nP, nS] at e
            · simp [nP, nT] at e
            · simp [nP, nH] at e
            · simp only [nP, nT, Prod.mk.injEq, true_and, and_true] at e1 e2
              obtain ⟨rfl, rfl⟩ := e1
              subst e2
              obtain ⟨_, b1, b2, b3, b4⟩ := hok
              unfold overB at b4
              exact c ⟨by omega, by omega, by omega, by omega⟩
          · exact Or.inr ⟨k, by omega, e⟩
theorem stO {f : Nat} (hf : f < n) (hov : overB has q f) : ∀ (m : Nat), m ≤ n → ∀ (s : List (List Int) × List S29) (D : Nd → Nd → Prop), Stt n has q t s.1 D →
    Stt n has q t (A.sOto n has q t f s m).1 (fun x y => D x y ∨ ∃ o, o < m ∧ ((x = nH f ∧ y = nP f o) ∨ ∃ k, k < n ∧ x = nP f o ∧ y = nT k)) := by
  intro m
  induction m with
  | zero => intro _ s D h; exact h.congr (fun x y _ _ _ => ⟨Or.inl, fun e => e.elim id (fun ⟨k, hk, _⟩ => by omega)⟩)
  | succ m ih =>
    intro hm s D h
    have h1 := ih (by omega) s D h
    rw [A.sOto, A.sO]
    have h2 := h1.put (vH hf) (vP hf (show m < n by omega)) (capHP has q t f m hov).symm (A.nodeH f) (A.nodeP n f m) (by rw [ixH]; unfold A.nodeH; push_cast; rfl) (by rw [ixP]; unfold A.nodeP; push_cast; rfl)
    have h3 := stT hf (show m < n by omega) hov n (Nat.le_refl _) (A.upd (A.sOto n has q t f s m).1 (A.nodeH f) (A.nodeP n f m) (A.get t f m), (A.sOto n has q t f s m).2) _ h2
    refine h3.congr (fun x y _ _ _ => ?_)
    constructor
    · rintro (((e | ⟨o, ho, e⟩) | e) | ⟨k, hk, e⟩)
      · exact Or.inl e
      · exact Or.inr ⟨o, by omega, e⟩
      · exact Or.inr ⟨m, by omega, Or.inl e⟩
      · exact Or.inr ⟨m, by omega, Or.inr ⟨k, hk, e⟩⟩
    · rintro (e | ⟨o, ho, e⟩)
      · exact Or.inl (Or.inl (Or.inl e))
      · by_cases eo : o = m
        · subst eo
          rcases e with e | ⟨k, hk, e⟩
          · exact Or.inl (Or.inr e)
          · exact Or.inr ⟨k, hk, e⟩
        · exact Or.inl (Or.inl (Or.inr ⟨o, by omega, e⟩))
def fof (x y : Nd) : Nat := if x.1 = 0 then y.2.1 else x.2.1
theorem stF (hb : ∀ f : Nat, f < n → -1000000000000000000 ≤ rd has f - rd q f ∧ rd has f - rd q f ≤ 1000000000000000000) (s : List (List Int) × Int × List S29) (hs : Stt n has q t s.1 (fun _ _ => False)) : ∀ (m : Nat), m ≤ n → Stt n has q t (A.sFto n has q t s m).1 (fun x y => fof x y < m) := by
  intro m
  induction m with
  | zero => intro _; exact hs.congr (fun x y _ _ _ => ⟨False.elim, fun e => by omega⟩)
  | succ m ih =>
    intro hm
    have h1 := ih (by omega)
    have hbm := hb m (by omega)
    rw [A.sFto, A.sF]
    by_cases c : rd has m ≤ rd q m
    · rw [if_pos c]
      have hno : ¬ overB has q m := by unfold overB; omega
      refine (h1.put (vT (show m < n by omega)) (vE n) (v := wrap64 (rd q m - rd has m)) (by rw [capTE has q t m hno]; exact w64 (by omega)) (A.nodeT n m) 1 (by rw [ixT]; unfold A.nodeT; push_cast; rfl) (by rw [ixE]; rfl)).congr (fun x y hx hy hne => ?_)
      constructor
      · rintro (e | ⟨rfl, rfl⟩)
        · omega
        · show m < m + 1; omega
      · intro e
        by_cases e2 : fof x y < m
        · exact Or.inl e2
        · have e3 : fof x y = m := by omega
          rcases cap_cases n has q t hx hy hne with ⟨f, _, rfl, rfl, ho⟩ | ⟨k, _, rfl, rfl, _⟩ | ⟨f, o, _, _, rfl, rfl, ho⟩ | ⟨f, o, k, _, _, _, rfl, rfl, hok⟩
          · have : f = m := e3
            subst this; exact absurd ho hno
          · have : k = m := e3
            subst this; exact Or.inr ⟨rfl, rfl⟩
          · have : f = m := e3
            subst this; exact absurd ho hno
          · have : f = m := e3
            subst this; exact absurd hok.1 hno
    · rw [if_neg c]
      have hov : overB has q m := by unfold overB; omega
      have h2 := h1.put (vS n) (vH (show m < n by omega)) (v := wrap64 (rd has m - rd q m)) (by rw [capSH has q t m hov]; exact w64 (by omega)) 0 (A.nodeH m) (by rw [ixS]; rfl) (by rw [ixH]; unfold A.nodeH; push_cast; rfl)
      have h3 := stO (show m < n by omega) hov n (Nat.le_refl _) (A.upd (A.sFto n has q t s m).1 0 (A.nodeH m) (wrap64 (rd has m - rd q m)), (A.sFto n has q t s m).2.2) _ h2
      refine h3.congr (fun x y hx hy hne => ?_)
      constructor
      · rintro ((e | ⟨rfl, rfl⟩) | ⟨o, ho, ⟨rfl, rfl⟩ | ⟨k, hk, rfl, rfl⟩⟩)
        · omega
        · show m < m + 1; omega
        · show m < m + 1; omega
        · show m < m + 1; omega
      · intro e
        by_cases e2 : fof x y < m
        · exact Or.inl (Or.inl e2)
        · have e3 : fof x y = m := by omega
          rcases cap_cases n has q t hx hy hne with ⟨f, _, rfl, rfl, ho⟩ | ⟨k, _, rfl, rfl, hk⟩ | ⟨f, o, _, ho', rfl, rfl, ho⟩ | ⟨f, o, k, _, ho', hk', rfl, rfl, hok⟩
          · have : f = m := e3
            subst this; exact Or.inl (Or.inr ⟨rfl, rfl⟩)
          · have : k = m := e3
            subst this; exact absurd hov hk
          · have : f = m := e3
            subst this; exact Or.inr ⟨o, ho', Or.inl ⟨rfl, rfl⟩⟩
          · have : f = m := e3
            subst this; exact Or.inr ⟨o, ho', Or.inr ⟨k, hk', rfl, rfl⟩⟩
end
theorem zero_get (n : Nat) (x y : Nat) : A.get (A.zeroNet n) x y = 0 := by
  unfold A.get A.zeroNet rd_L1
  rw [Int.toNat_natCast, List.getD_eq_getElem?_getD, List.getElem?_replicate]
  split
  · simp only [Option.getD_some]
    unfold rd
    rw [Int.toNat_natCast, List.getD_eq_getElem?_getD, List.getElem?_replicate]
    split <;> rfl
  · rfl
/-- The network as it is built. -/
theorem built {t : List (List Int)} {q : List Int} (h : A.fitsT t q = true) : A.Sqn (A.netSize t.length) (A.buildNet t q).1 ∧ ∀ x y, Vd t.length x → Vd t.length y → A.get (A.buildNet t q).1 (ix t.length x) (ix t.length y) = cap (A.heldT t) q t x y := by
  have hv : A.validT t = true := by
    rw [A.fitsT, Bool.and_eq_true] at h
    exact h.1
  have key := stF (n := t.length) (has := A.heldT t) (q := q) (t := t) (fun f hf => by
    have h1 := A.held_bound hv f (by omega) (by omega)
    have h2 := A.quota_bound h f (by omega) (by omega)
    omega) (A.zeroNet t.length, 0, []) ⟨A.zeroNet_sq _, fun x y _ _ => by rw [zero_get, if_neg (fun e => e)]⟩ t.length (Nat.le_refl _)
  refine ⟨key.1, fun x y hx hy => ?_⟩
  rw [show A.buildNet t q = A.sFto t.length (A.heldT t) q t (A.zeroNet t.length, 0, []) t.length from rfl, key.2 x y hx hy]
  by_cases c : cap (A.heldT t) q t x y = 0
  · rw [c]; split <;> rfl
  · rw [if_pos]
    rcases cap_cases t.length _ q t hx hy c with ⟨f, hf, rfl, rfl, _⟩ | ⟨k, hk, rfl, rfl, _⟩ | ⟨f, o, hf, _, rfl, rfl, _⟩ | ⟨f, o, k, hf, _, _, rfl, rfl, _⟩
    · exact hf
    · exact hk
    · exact hf
    · exact hf
open Classical in
/-- What is over, in all. -/
theorem over_eq {t : List (List Int)} {q : List Int} (h : A.fitsT t q = true) : ∀ m : Nat, m ≤ t.length → (A.sFto t.length (A.heldT t) q t (A.zeroNet t.length, 0, []) m).2.1 = isum (fun f => if overB (A.heldT t) q f then rd (A.heldT t) f - rd q f else 0) m ∧ 0 ≤ isum (fun f => if overB (A.heldT t) q f then rd (A.heldT t) f - rd q f else 0) m ∧ isum (fun f => if overB (A.heldT t) q f then rd (A.heldT t) f - rd q f else 0) m ≤ m * 13194139533312 := by
  have hv : A.validT t = true := by
    rw [A.fitsT, Bool.and_eq_true] at h
    exact h.1
  have h12 := (A.valid_sq hv).1
  intro m
  induction m with
  | zero => intro _; exact ⟨rfl, Int.le_refl _, by simp [isum]⟩
  | succ m ih =>
    intro hm
    obtain ⟨i1, i2, i3⟩ := ih (by omega)
    have h1 := A.held_bound hv m (by omega) (by omega)
    have h2 := A.quota_bound h m (by omega) (by omega)
    rw [A.sFto, A.sF]
    by_cases c : rd (A.heldT t) m ≤ rd q m
    · have hno : ¬ overB (A.heldT t) q m := by unfold overB; omega
      rw [if_pos c, isum, if_neg hno]
      simp only
      refine ⟨by rw [i1]; omega, by omega, by push_cast; omega⟩
    · have hov : overB (A.heldT t) q m := by unfold overB; omega
      rw [if_neg c, isum, if_pos hov]
      simp only
      have w1 : wrap64 (rd (A.heldT t) m - rd q m) = rd (A.heldT t) m - rd q m := w64 (by omega)
      refine ⟨?_, by omega, by push_cast; omega⟩
      rw [w1, i1]
      exact w64 (by omega)
end Go.Proofs.Ytdljbmgknhbceaa.P
