import Derived.Test.YtdljbmgknhbceaaPl
import Derived.Test.YtdljbmgknhbceaaM2
namespace Go.Proofs.Ytdljbmgknhbceaa.P
open Go.RowKit Go.Proofs.YtdljbmgknhbceaaW.PrintWords Go.Proofs.Ytdljbmgknhbceaa.Q
set_option linter.unusedVariables false
set_option linter.unusedSimpArgs false
set_option linter.unusedSectionVars false

/-! ### pushing along a path -/
def R (N : Nat) (g : List (List Int)) (v : Nat) : Int := isum (fun y => A.get g v y) N
/-- A residual network: square, no number below 0, none large. -/
structure Net (N : Nat) (M : Int) (g : List (List Int)) : Prop where
  sq : A.Sqn N g
  low : ∀ x y : Nat, x < N → y < N → 0 ≤ A.get g x y
  sum : ∀ x y : Nat, x < N → y < N → A.get g x y + A.get g y x ≤ M
/-- g' is g after v was sent from s to t. -/
structure Sent (N : Nat) (M : Int) (g g' : List (List Int)) (s t : Nat) (v : Int) : Prop where
  net : Net N M g'
  same : ∀ x y : Nat, x < N → y < N → A.get g' x y + A.get g' y x = A.get g x y + A.get g y x
  row : ∀ u : Nat, u < N → R N g' u = R N g u - (if u = s then v else 0) + (if u = t then v else 0)
theorem Sent.refl {N : Nat} {M : Int} {g : List (List Int)} (h : Net N M g) (s t : Nat) : Sent N M g g s t 0 := ⟨h, fun _ _ _ _ => rfl, fun u _ => by split <;> split <;> omega⟩
theorem Sent.trans {N : Nat} {M : Int} {g g' g'' : List (List Int)} {s t : Nat} {v w : Int} (h : Sent N M g g' s t v) (h' : Sent N M g' g'' s t w) : Sent N M g g'' s t (v + w) :=
  ⟨h'.net, fun x y hx hy => (h'.same x y hx hy).trans (h.same x y hx hy), fun u hu => by rw [h'.row u hu, h.row u hu]; split <;> split <;> omega⟩
theorem R_upd {N : Nat} {g : List (List Int)} (h : A.Sqn N g) (p q : Nat) (hp : p < N) (hq : q < N) (v : Int) (u : Nat) (hu : u < N) : R N (A.upd g p q v) u = R N g u + (if u = p then v - A.get g p q else 0) := by
  have hg : ∀ a b : Nat, A.get (A.upd g p q v) a b = if a = p ∧ b = q then v else A.get g a b := fun a b => by
    rw [A.get_upd h p q v a b (by omega) (by omega) (by omega) (by omega) (by omega) (by omega)]
    simp only [Int.natCast_inj]
  unfold R
  by_cases e : u = p
  · subst e
    rw [if_pos rfl, isum_congr (g := fun j => A.get g u j + (if j = q then v - A.get g u q else 0)) (fun j _ => by
      rw [hg u j]
      by_cases ej : j = q
      · rw [if_pos ⟨rfl, ej⟩, if_pos ej, ej]; omega
      · rw [if_neg (fun h => ej h.2), if_neg ej]; omega), isum_add, isum_pt, if_pos hq]
  · rw [if_neg e, isum_congr (g := fun j => A.get g u j) (fun j _ => by rw [hg u j, if_neg (fun h => e h.1)])]; omega
theorem pushE_get {N : Nat} {M : Int} {g : List (List Int)} (h : Net N M g) (hM : M ≤ 4611686018427387904) (p q : Nat) (hp : p < N) (hq : q < N) (hpq : p ≠ q) (d : Int) (d0 : 0 ≤ d) (d1 : d ≤ A.get g p q) :
    A.Sqn N (A.pushE g d ((p : Int), (q : Int))) ∧ (∀ a b : Nat, A.get (A.pushE g d ((p : Int), (q : Int))) a b = A.get g a b - (if a = p ∧ b = q then d else 0) + (if a = q ∧ b = p then d else 0)) := by
  have b1 := h.low p q hp hq
  have b2 := h.low q p hq hp
  have b3 := h.sum p q hp hq
  have hg : ∀ v : Int, ∀ a b : Nat, A.get (A.upd g p q v) a b = if a = p ∧ b = q then v else A.get g a b := fun v a b => by
    rw [A.get_upd h.sq p q v a b (by omega) (by omega) (by omega) (by omega) (by omega) (by omega)]
    simp only [Int.natCast_inj]
  have hs : ∀ v : Int, A.Sqn N (A.upd g p q v) := fun v => h.sq.upd _ _ _
  unfold A.pushE
  simp only
  rw [w64 (show -9223372036854775808 ≤ A.get g p q - d ∧ A.get g p q - d ≤ 9223372036854775807 by omega), hg _ q p, if_neg (fun e => hpq e.1.symm), w64 (show -9223372036854775808 ≤ A.get g q p + d ∧ A.get g q p + d ≤ 9223372036854775807 by omega)]
  refine ⟨(hs _).upd _ _ _, fun a b => ?_⟩
  rw [A.get_upd (hs _) q p _ a b (by omega) (by omega) (by omega) (by omega) (by omega) (by omega), hg]
  simp only [Int.natCast_inj]
  by_cases c1 : a = q ∧ b = p
  · obtain ⟨rfl, rfl⟩ := c1
    rw [if_pos ⟨rfl, rfl⟩, if_neg (fun e => hpq e.2), if_pos ⟨rfl, rfl⟩]; omega
  · rw [if_neg c1, if_neg c1]
    by_cases c2 : a = p ∧ b = q
    · obtain ⟨rfl, rfl⟩ := c2
      rw [if_pos ⟨rfl, rfl⟩, if_pos ⟨rfl, rfl⟩]; omega
    · rw [if_neg c2, if_neg c2]; omega
theorem pushE_sent {N : Nat} {M : Int} {g : List (List Int)} (h : Net N M g) (hM : M ≤ 4611686018427387904) (p q : Nat) (hp : p < N) (hq : q < N) (hpq : p ≠ q) (d : Int) (d0 : 0 ≤ d) (d1 : d ≤ A.get g p q) :
    Sent N M g (A.pushE g d ((p : Int), (q : Int))) p q d := by
  obtain ⟨hs, hg⟩ := pushE_get h hM p q hp hq hpq d d0 d1
  have hsum : ∀ x y : Nat, A.get (A.pushE g d ((p : Int), (q : Int))) x y + A.get (A.pushE g d ((p : Int), (q : Int))) y x = A.get g x y + A.get g y x := fun x y => by
    rw [hg, hg]
    by_cases c1 : x = p ∧ y = q
    · obtain ⟨rfl, rfl⟩ := c1
      rw [if_pos ⟨rfl, rfl⟩, if_neg (fun e => hpq e.1), if_neg (fun e => hpq e.2), if_pos ⟨rfl, rfl⟩]; omega
    · by_cases c2 : x = q ∧ y = p
      · obtain ⟨rfl, rfl⟩ := c2
        rw [if_neg (fun e => hpq e.2), if_pos ⟨rfl, rfl⟩, if_pos ⟨rfl, rfl⟩, if_neg (fun e => hpq e.1)]; omega
      · rw [if_neg c1, if_neg c2, if_neg (fun e => c2 ⟨e.2, e.1⟩), if_neg (fun e => c1 ⟨e.2, e.1⟩)]; omega
  refine ⟨⟨hs, fun x y hx hy => ?_, fun x y hx hy => by rw [hsum]; exact h.sum x y hx hy⟩, fun x y _ _ => hsum x y, fun u hu => ?_⟩
  · rw [hg]
    have := h.low x y hx hy
    by_cases c1 : x = p ∧ y = q
    · obtain ⟨rfl, rfl⟩ := c1
      rw [if_pos ⟨rfl, rfl⟩, if_neg (fun e => hpq e.1)]; omega
    · rw [if_neg c1]; split <;> omega
  · have e1 : R N (A.pushE g d ((p : Int), (q : Int))) u = R N g u + isum (fun y => if u = q ∧ y = p then d else 0) N - isum (fun y => if u = p ∧ y = q then d else 0) N := by
      unfold R
      rw [isum_congr (fun y _ => hg u y)]
      have : isum (fun y => A.get g u y - (if u = p ∧ y = q then d else 0) + (if u = q ∧ y = p then d else 0)) N = isum (fun y => A.get g u y - (if u = p ∧ y = q then d else 0)) N + isum (fun y => if u = q ∧ y = p then d else 0) N := isum_add _ _ N
      rw [this, isum_sub]; omega
    have e2 : isum (fun y => if u = q ∧ y = p then d else 0) N = if u = q then d else 0 := by
      by_cases c : u = q
      · rw [if_pos c, isum_congr (g := fun y => if y = p then d else 0) (fun y _ => by simp [c]), isum_pt, if_pos hp]
      · rw [if_neg c, isum_congr (g := fun _ => 0) (fun y _ => by simp [c]), isum_zero]
    have e3 : isum (fun y => if u = p ∧ y = q then d else 0) N = if u = p then d else 0 := by
      by_cases c : u = p
      · rw [if_pos c, isum_congr (g := fun y => if y = q then d else 0) (fun y _ => by simp [c]), isum_pt, if_pos hq]
      · rw [if_neg c, isum_congr (g := fun _ => 0) (fun y _ => by simp [c]), isum_zero]
    rw [e1, e2, e3]; omega

/-! ### the trail -/
/-- The trail's edges: natural numbers. -/
theorem trail_ok {g : List (List Int)} {N : Nat} {s : Nat} {b q : List Int} {cl : Int → Int → Prop} (h : A.BI g N (s : Int) b q cl) (hs : s < N) : ∃ rk : Int → Nat, (∀ y : Int, 0 ≤ y → y < N → 0 ≤ rd b y → rk y < N ∧ (y ≠ s → 0 ≤ rd b y ∧ rd b y < N ∧ 0 ≤ rd b (rd b y) ∧ rk (rd b y) < rk y ∧ 0 < A.get g (rd b y) y)) := by
  obtain ⟨rk, m, hm, ht⟩ := h.tree
  refine ⟨rk, fun y y0 y1 hb => ?_⟩
  obtain ⟨t1, t2⟩ := ht y y0 y1 hb
  refine ⟨by omega, fun hne => ?_⟩
  obtain ⟨a, b', c⟩ := t2 hne
  have := h.rng y y0 y1
  exact ⟨hb, by omega, a, b', c⟩
theorem lim_le (g : List (List Int)) : ∀ (es : List (Int × Int)) (l : Int), A.lim g es l ≤ l ∧ ∀ e ∈ es, A.lim g es l ≤ A.get g e.1 e.2 := by
  intro es
  induction es with
  | nil => intro l; exact ⟨Int.le_refl _, fun e he => by cases he⟩
  | cons e es ih =>
    intro l
    rw [A.lim]
    obtain ⟨h1, h2⟩ := ih (min l (A.get g e.1 e.2))
    refine ⟨by omega, fun e' he' => ?_⟩
    rcases List.mem_cons.1 he' with rfl | he'
    · omega
    · exact h2 e' he'
theorem lim_pos (g : List (List Int)) : ∀ (es : List (Int × Int)) (l : Int), 0 < l → (∀ e ∈ es, 0 < A.get g e.1 e.2) → 0 < A.lim g es l := by
  intro es
  induction es with
  | nil => intro l hl _; exact hl
  | cons e es ih =>
    intro l hl he
    rw [A.lim]
    have := he e List.mem_cons_self
    exact ih _ (by omega) (fun e' he' => he e' (List.mem_cons_of_mem _ he'))
section
variable {g : List (List Int)} {N : Nat} {s : Nat} {b : List Int} {rk : Int → Nat} (hs : s < N) (hroot : rd b s = s) (ht : ∀ y : Int, 0 ≤ y → y < N → 0 ≤ rd b y → rk y < N ∧ (y ≠ s → 0 ≤ rd b y ∧ rd b y < N ∧ 0 ≤ rd b (rd b y) ∧ rk (rd b y) < rk y ∧ 0 < A.get g (rd b y) y))
include hs ht
theorem trail_pos : ∀ (f : Nat) (y : Int), 0 ≤ y → y < N → 0 ≤ rd b y → ∀ e ∈ A.trail b s f y, 0 < A.get g e.1 e.2 := by
  intro f
  induction f with
  | zero => intro y _ _ _ e he; cases he
  | succ f ih =>
    intro y y0 y1 hb e he
    rw [A.trail] at he
    by_cases c : y = s
    · rw [if_pos c] at he; cases he
    · rw [if_neg c] at he
      obtain ⟨a1, a2, a3, a4, a5⟩ := (ht y y0 y1 hb).2 c
      rcases List.mem_cons.1 he with rfl | he
      · exact a5
      · exact ih _ a1 a2 a3 e he
/-- Pushing along the rest of the trail, in a network whose edges on it are as they were. -/
theorem push_trail {M : Int} (hM : M ≤ 4611686018427387904) (d : Int) (d0 : 0 ≤ d) : ∀ (f : Nat) (y : Nat) (g1 : List (List Int)), y < N → 0 ≤ rd b (y : Int) → rk (y : Int) < f → Net N M g1 → (∀ e ∈ A.trail b s f y, d ≤ A.get g1 e.1 e.2) →
    Sent N M g1 (A.push g1 d (A.trail b s f y)) s y d := by
  intro f
  induction f with
  | zero => intro y g1 hy hb hr; omega
  | succ f ih =>
    intro y g1 hy hb hr hn hd
    rw [A.trail] at hd ⊢
    by_cases c : (y : Int) = s
    · rw [if_pos c]
      obtain rfl : y = s := by omega
      exact ⟨hn, fun _ _ _ _ => rfl, fun u _ => by rw [A.push]; split <;> omega⟩
    · rw [if_neg c] at hd ⊢
      obtain ⟨a1, a2, a3, a4, a5⟩ := (ht y (by omega) (by omega) hb).2 c
      obtain ⟨x, hx⟩ := Int.eq_ofNat_of_zero_le a1
      rw [hx] at a2 a3 a4 hd ⊢
      have hxN : x < N := by omega
      have hxy : x ≠ y := by rintro rfl; omega
      have h0 := hd _ List.mem_cons_self
      simp only at h0
      have hS := pushE_sent hn hM x y hxN hy hxy d d0 h0
      obtain ⟨_, hg⟩ := pushE_get hn hM x y hxN hy hxy d d0 h0
      rw [A.push]
      -- the rest's edges are as they were
      have keep : ∀ (f' : Nat) (z : Nat), z < N → 0 ≤ rd b (z : Int) → rk (z : Int) ≤ rk (x : Int) → ∀ e ∈ A.trail b s f' z, A.get (A.pushE g1 d ((x : Int), (y : Int))) e.1 e.2 = A.get g1 e.1 e.2 := by
        intro f'
        induction f' with
        | zero => intro z _ _ _ e he; cases he
        | succ f' ih' =>
          intro z hz hbz hrz e he
          rw [A.trail] at he
          by_cases cz : (z : Int) = s
          · rw [if_pos cz] at he; cases he
          · rw [if_neg cz] at he
            obtain ⟨b1, b2, b3, b4, b5⟩ := (ht z (by omega) (by omega) hbz).2 cz
            obtain ⟨u, hu⟩ := Int.eq_ofNat_of_zero_le b1
            rw [hu] at b2 b3 b4 he
            rcases List.mem_cons.1 he with rfl | he
            · simp only
              rw [hg u z, if_neg, if_neg]
              · omega
              · rintro ⟨e1, e2⟩
                rw [e1, e2] at b4
                omega
              · rintro ⟨e1, e2⟩
                rw [e2] at hrz
                omega
            · exact ih' u (by omega) b3 (by omega) e he
      have hrest := ih x (A.pushE g1 d ((x : Int), (y : Int))) hxN a3 (by omega) hS.net (fun e he => by
        rw [keep f x hxN a3 (Nat.le_refl _) e he]
        exact hd e (List.mem_cons_of_mem _ he))
      refine ⟨hrest.net, fun a b' ha hb' => (hrest.same a b' ha hb').trans (hS.same a b' ha hb'), fun u hu => ?_⟩
      rw [hrest.row u hu, hS.row u hu]
      split <;> split <;> split <;> omega
end

/-! ### one augmentation, and a flow -/
/-- A set that holds s and not t, and that nothing leaves. -/
def Cut (N : Nat) (g : List (List Int)) (s t : Nat) (X : Nat → Prop) : Prop := X s ∧ ¬ X t ∧ ∀ x y : Nat, x < N → y < N → X x → ¬ X y → A.get g x y = 0
theorem aug {N : Nat} {M : Int} {g : List (List Int)} (h : Net N M g) (hM : M ≤ 4611686018427387904) (s t : Nat) (hs : s < N) (ht : t < N) (hst : s ≠ t) (l : Int) (l0 : 0 < l) :
    ((A.augG g s t l = (g, 0)) ∧ ∃ X, Cut N g s t X) ∨ (0 < (A.augG g s t l).2 ∧ (A.augG g s t l).2 ≤ l ∧ Sent N M g (A.augG g s t l).1 s t (A.augG g s t l).2) := by
  have hgl := h.sq.1
  have hI := A.BI.init g N (s : Int) (by omega) (by omega)
  have hun : A.unv (A.initB N (s : Int)) + 1 = N := by
    unfold A.initB
    rw [A.unv_set _ (s : Int).toNat s (by simp; omega) (by simp) (by omega), A.unv_replicate]
  obtain ⟨q', hB, hor⟩ := A.bfs_end (t := (t : Int)) hgl (by omega) (by omega) (N + 1) (A.initB N s) [(s : Int)] hI (by simp; omega)
  have eb : A.before g s t = A.bfs g t (N + 1) (A.initB N s, [(s : Int)]) := by rw [A.before, hgl]
  unfold A.augG
  simp only
  rw [eb]
  generalize hb : A.bfs g t (N + 1) (A.initB N s, [(s : Int)]) = b at hB hor
  by_cases c : rd b (t : Int) < 0
  · left
    rw [if_pos c]
    refine ⟨rfl, fun x => 0 ≤ rd b (x : Int), ?_, by omega, fun x y hx hy hX hY => ?_⟩
    · show 0 ≤ rd b (s : Int)
      rw [hB.root]; omega
    · have hq : q' = [] := hor.resolve_right (by omega)
      subst hq
      by_cases e : 0 < A.get g x y
      · exact absurd (hB.closed x y (by omega) (by omega) (by omega) (by omega) hX (by simp) trivial e) hY
      · have := h.low x y hx hy; omega
  · right
    rw [if_neg c]
    obtain ⟨rk, hrk⟩ := trail_ok hB hs
    have hpos := trail_pos (g := g) (b := b) hs hrk g.length (t : Int) (by omega) (by omega) (by omega)
    have hl := lim_le g (A.trail b s g.length t) l
    have hlp := lim_pos g (A.trail b s g.length t) l l0 hpos
    refine ⟨hlp, hl.1, ?_⟩
    exact push_trail (g := g) (b := b) hs hrk hM _ (Int.le_of_lt hlp) g.length t g ht (by omega) (by rw [hgl]; exact (hrk t (by omega) (by omega) (by omega)).1) h hl.2
theorem flow {N : Nat} {M : Int} (hM : M ≤ 4611686018427387904) (s t : Nat) (hs : s < N) (ht : t < N) (hst : s ≠ t) (l : Int) : ∀ (f : Nat) (g : List (List Int)) (sent : Int), Net N M g → 0 ≤ sent → sent ≤ l → l - sent ≤ f →
    ∃ v, 0 ≤ v ∧ (A.flowG s t l f g sent).2 = sent + v ∧ sent + v ≤ l ∧ Sent N M g (A.flowG s t l f g sent).1 s t v ∧ (sent + v = l ∨ ∃ X, Cut N (A.flowG s t l f g sent).1 s t X) := by
  intro f
  induction f with
  | zero =>
    intro g sent h h0 h1 h2
    exact ⟨0, Int.le_refl _, by rw [A.flowG]; omega, by omega, by rw [A.flowG]; exact .refl h s t, Or.inl (by omega)⟩
  | succ f ih =>
    intro g sent h h0 h1 h2
    rw [A.flowG]
    by_cases c : sent < l
    · rw [if_pos c]
      simp only
      rcases aug h hM s t hs ht hst (l - sent) (by omega) with ⟨e, X, hX⟩ | ⟨a1, a2, a3⟩
      · rw [e]
        simp only [if_true]
        exact ⟨0, Int.le_refl _, by omega, by omega, .refl h s t, Or.inr ⟨X, hX⟩⟩
      · rw [if_neg (by omega)]
        obtain ⟨v, v0, v1, v2, v3, v4⟩ := ih (A.augG g s t (l - sent)).1 (sent + (A.augG g s t (l - sent)).2) a3.net (by omega) (by omega) (by omega)
        refine ⟨(A.augG g s t (l - sent)).2 + v, by omega, by omega, by omega, a3.trans v3, ?_⟩
        rcases v4 with v4 | v4
        · exact Or.inl (by omega)
        · exact Or.inr v4
    · rw [if_neg c]
      exact ⟨0, Int.le_refl _, by omega, by omega, .refl h s t, Or.inl (by omega)⟩
end Go.Proofs.Ytdljbmgknhbceaa.P
