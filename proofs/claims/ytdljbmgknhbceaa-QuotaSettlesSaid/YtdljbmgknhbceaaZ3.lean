-- Merged by wip/tools/shake.py out of: Mf, Mn, Mk, Mg, Ms, Mt, Mh, Mv, Mw, Qx48, Qx49, My, Mi
import Derived.Test.YtdljbmgknhbceaaZ1
import Derived.Test.YtdljbmgknhbceaaZ2
set_option linter.unusedVariables false
set_option linter.unusedSimpArgs false
set_option linter.unusedSectionVars false
section
namespace Go.Proofs.Ytdljbmgknhbceaa.P
open Go.RowKit Go.Proofs.YtdljbmgknhbceaaW.PrintWords Go.Proofs.Ytdljbmgknhbceaa.Q
def R (N : Nat) (g : List (List Int)) (v : Nat) : Int := isum (fun y => A.get g v y) N
structure Net (N : Nat) (M : Int) (g : List (List Int)) : Prop where
 sq : A.Sqn N g
 low : ∀ x y : Nat, x < N → y < N → 0 ≤ A.get g x y
 sum : ∀ x y : Nat, x < N → y < N → A.get g x y + A.get g y x ≤ M
structure Sent (N : Nat) (M : Int) (g g' : List (List Int)) (s t : Nat) (v : Int) : Prop where
 net : Net N M g'
 same : ∀ x y : Nat, x < N → y < N → A.get g' x y + A.get g' y x = A.get g x y + A.get g y x
 row : ∀ u : Nat, u < N → R N g' u = R N g u - (if u = s then v else 0) + (if u = t then v else 0)
theorem Sent.refl {N : Nat} {M : Int} {g : List (List Int)} (h : Net N M g) (s t : Nat) : Sent N M g g s t 0 := ⟨h, fun _ _ _ _ => rfl, fun u _ => by split <;> split <;> omega⟩
theorem Sent.trans {N : Nat} {M : Int} {g g' g'' : List (List Int)} {s t : Nat} {v w : Int} (h : Sent N M g g' s t v) (h' : Sent N M g' g'' s t w) : Sent N M g g'' s t (v + w) :=
 ⟨h'.net, fun x y hx hy => (h'.same x y hx hy).trans (h.same x y hx hy), fun u hu => by rw [h'.row u hu, h.row u hu]; split <;> split <;> omega⟩
theorem R_upd {N : Nat} {g : List (List Int)} (h : A.Sqn N g) (p q : Nat) (hp : p < N) (hq : q < N) (v : Int) (u : Nat) (hu : u < N) : R N (A.upd g p q v) u = R N g u + (if u = p then v - A.get g p q else 0) := by
 have hg : ∀ a b : Nat, A.get (A.upd g p q v) a b = if a = p ∧ b = q then v else A.get g a b := fun a b => by
  rw [A.get_upd h p q v a b (by omega) (by omega) (by omega) (by omega) (by omega) (by omega)]
  simp only [Int.natCast_inj]
 unfold R
 by_cases e : u = p
 · subst e
   rw [if_pos rfl, isum_congr (g := fun j => A.get g u j + (if j = q then v - A.get g u q else 0)) (fun j _ => by
     rw [hg u j]
     by_cases ej : j = q
     · rw [if_pos ⟨rfl, ej⟩, if_pos ej, ej]; omega
     · rw [if_neg (fun h => ej h.2), if_neg ej]; omega), isum_add, isum_pt, if_pos hq]
 · rw [if_neg e, isum_congr (g := fun j => A.get g u j) (fun j _ => by rw [hg u j, if_neg (fun h => e h.1)])]; omega
theorem pushE_get {N : Nat} {M : Int} {g : List (List Int)} (h : Net N M g) (hM : M ≤ 4611686018427387904) (p q : Nat) (hp : p < N) (hq : q < N) (hpq : p ≠ q) (d : Int) (d0 : 0 ≤ d) (d1 : d ≤ A.get g p q) :
 A.Sqn N (A.pushE g d ((p : Int), (q : Int))) ∧ (∀ a b : Nat, A.get (A.pushE g d ((p : Int), (q : Int))) a b = A.get g a b - (if a = p ∧ b = q then d else 0) + (if a = q ∧ b = p then d else 0)) := by
 have b1 := h.low p q hp hq
 have b2 := h.low q p hq hp
 have b3 := h.sum p q hp hq
 have hg : ∀ v : Int, ∀ a b : Nat, A.get (A.upd g p q v) a b = if a = p ∧ b = q then v else A.get g a b := fun v a b => by
  rw [A.get_upd h.sq p q v a b (by omega) (by omega) (by omega) (by omega) (by omega) (by omega)]
  simp only [Int.natCast_inj]
 have hs : ∀ v : Int, A.Sqn N (A.upd g p q v) := fun v => h.sq.upd _ _ _
 unfold A.pushE
 simp only
 rw [w64 (show -9223372036854775808 ≤ A.get g p q - d ∧ A.get g p q - d ≤ 9223372036854775807 by omega), hg _ q p, if_neg (fun e => hpq e.1.symm), w64 (show -9223372036854775808 ≤ A.get g q p + d ∧ A.get g q p + d ≤ 9223372036854775807 by omega)]
 refine ⟨(hs _).upd _ _ _, fun a b => ?_⟩
 rw [A.get_upd (hs _) q p _ a b (by omega) (by omega) (by omega) (by omega) (by omega) (by omega), hg]
 simp only [Int.natCast_inj]
 by_cases c1 : a = q ∧ b = p
 · obtain ⟨rfl, rfl⟩ := c1
   rw [if_pos ⟨rfl, rfl⟩, if_neg (fun e => hpq e.2), if_pos ⟨rfl, rfl⟩]; omega
 · rw [if_neg c1, if_neg c1]
   by_cases c2 : a = p ∧ b = q
   · obtain ⟨rfl, rfl⟩ := c2
     rw [if_pos ⟨rfl, rfl⟩, if_pos ⟨rfl, rfl⟩]; omega
   · rw [if_neg c2, if_neg c2]; omega
theorem pushE_sent {N : Nat} {M : Int} {g : List (List Int)} (h : Net N M g) (hM : M ≤ 4611686018427387904) (p q : Nat) (hp : p < N) (hq : q < N) (hpq : p ≠ q) (d : Int) (d0 : 0 ≤ d) (d1 : d ≤ A.get g p q) :
 Sent N M g (A.pushE g d ((p : Int), (q : Int))) p q d := by
 obtain ⟨hs, hg⟩ := pushE_get h hM p q hp hq hpq d d0 d1
 have hsum : ∀ x y : Nat, A.get (A.pushE g d ((p : Int), (q : Int))) x y + A.get (A.pushE g d ((p : Int), (q : Int))) y x = A.get g x y + A.get g y x := fun x y => by
  rw [hg, hg]
  by_cases c1 : x = p ∧ y = q
  · obtain ⟨rfl, rfl⟩ := c1
    rw [if_pos ⟨rfl, rfl⟩, if_neg (fun e => hpq e.1), if_neg (fun e => hpq e.2), if_pos ⟨rfl, rfl⟩]; omega
  · by_cases c2 : x = q ∧ y = p
    · obtain ⟨rfl, rfl⟩ := c2
      rw [if_neg (fun e => hpq e.2), if_pos ⟨rfl, rfl⟩, if_pos ⟨rfl, rfl⟩, if_neg (fun e => hpq e.1)]; omega
    · rw [if_neg c1, if_neg c2, if_neg (fun e => c2 ⟨e.2, e.1⟩), if_neg (fun e => c1 ⟨e.2, e.1⟩)]; omega
 refine ⟨⟨hs, fun x y hx hy => ?_, fun x y hx hy => by rw [hsum]; exact h.sum x y hx hy⟩, fun x y _ _ => hsum x y, fun u hu => ?_⟩
 · rw [hg]
   have := h.low x y hx hy
   by_cases c1 : x = p ∧ y = q
   · obtain ⟨rfl, rfl⟩ := c1
     rw [if_pos ⟨rfl, rfl⟩, if_neg (fun e => hpq e.1)]; omega
   · rw [if_neg c1]; split <;> omega
 · have e1 : R N (A.pushE g d ((p : Int), (q : Int))) u = R N g u + isum (fun y => if u = q ∧ y = p then d else 0) N - isum (fun y => if u = p ∧ y = q then d else 0) N := by
    unfold R
    rw [isum_congr (fun y _ => hg u y)]
    have : isum (fun y => A.get g u y - (if u = p ∧ y = q then d else 0) + (if u = q ∧ y = p then d else 0)) N = isum (fun y => A.get g u y - (if u = p ∧ y = q then d else 0)) N + isum (fun y => if u = q ∧ y = p then d else 0) N := isum_add _ _ N
    rw [this, isum_sub]; omega
   have e2 : isum (fun y => if u = q ∧ y = p then d else 0) N = if u = q then d else 0 := by
    by_cases c : u = q
    · rw [if_pos c, isum_congr (g := fun y => if y = p then d else 0) (fun y _ => by simp [c]), isum_pt, if_pos hp]
    · rw [if_neg c, isum_congr (g := fun _ => 0) (fun y _ => by simp [c]), isum_zero]
   have e3 : isum (fun y => if u = p ∧ y = q then d else 0) N = if u = p then d else 0 := by
    by_cases c : u = p
    · rw [if_pos c, isum_congr (g := fun y => if y = q then d else 0) (fun y _ => by simp [c]), isum_pt, if_pos hq]
    · rw [if_neg c, isum_congr (g := fun _ => 0) (fun y _ => by simp [c]), isum_zero]
   rw [e1, e2, e3]; omega
theorem trail_ok {g : List (List Int)} {N : Nat} {s : Nat} {b q : List Int} {cl : Int → Int → Prop} (h : A.BI g N (s : Int) b q cl) (hs : s < N) : ∃ rk : Int → Nat, (∀ y : Int, 0 ≤ y → y < N → 0 ≤ rd b y → rk y < N ∧ (y ≠ s → 0 ≤ rd b y ∧ rd b y < N ∧ 0 ≤ rd b (rd b y) ∧ rk (rd b y) < rk y ∧ 0 < A.get g (rd b y) y)) := by
 obtain ⟨rk, m, hm, ht⟩ := h.tree
 refine ⟨rk, fun y y0 y1 hb => ?_⟩
 obtain ⟨t1, t2⟩ := ht y y0 y1 hb
 refine ⟨by omega, fun hne => ?_⟩
 obtain ⟨a, b', c⟩ := t2 hne
 have := h.rng y y0 y1
 exact ⟨hb, by omega, a, b', c⟩
theorem lim_le (g : List (List Int)) : ∀ (es : List (Int × Int)) (l : Int), A.lim g es l ≤ l ∧ ∀ e ∈ es, A.lim g es l ≤ A.get g e.1 e.2 := by
 intro es
 induction es with
 | nil => intro l; exact ⟨Int.le_refl _, fun e he => by cases he⟩
 | cons e es ih =>
  intro l
  rw [A.lim]
  obtain ⟨h1, h2⟩ := ih (min l (A.get g e.1 e.2))
  refine ⟨by omega, fun e' he' => ?_⟩
  rcases List.mem_cons.1 he' with rfl | he'
  · omega
  · exact h2 e' he'
theorem lim_pos (g : List (List Int)) : ∀ (es : List (Int × Int)) (l : Int), 0 < l → (∀ e ∈ es, 0 < A.get g e.1 e.2) → 0 < A.lim g es l := by
 intro es
 induction es with
 | nil => intro l hl _; exact hl
 | cons e es ih =>
  intro l hl he
  rw [A.lim]
  have := he e List.mem_cons_self
  exact ih _ (by omega) (fun e' he' => he e' (List.mem_cons_of_mem _ he'))
section
variable {g : List (List Int)} {N : Nat} {s : Nat} {b : List Int} {rk : Int → Nat} (hs : s < N) (hroot : rd b s = s) (ht : ∀ y : Int, 0 ≤ y → y < N → 0 ≤ rd b y → rk y < N ∧ (y ≠ s → 0 ≤ rd b y ∧ rd b y < N ∧ 0 ≤ rd b (rd b y) ∧ rk (rd b y) < rk y ∧ 0 < A.get g (rd b y) y))
include hs ht
theorem trail_pos : ∀ (f : Nat) (y : Int), 0 ≤ y → y < N → 0 ≤ rd b y → ∀ e ∈ A.trail b s f y, 0 < A.get g e.1 e.2 := by
 intro f
 induction f with
 | zero => intro y _ _ _ e he; cases he
 | succ f ih =>
  intro y y0 y1 hb e he
  rw [A.trail] at he
  by_cases c : y = s
  · rw [if_pos c] at he; cases he
  · rw [if_neg c] at he
    obtain ⟨a1, a2, a3, a4, a5⟩ := (ht y y0 y1 hb).2 c
    rcases List.mem_cons.1 he with rfl | he
    · exact a5
    · exact ih _ a1 a2 a3 e he
theorem push_trail {M : Int} (hM : M ≤ 4611686018427387904) (d : Int) (d0 : 0 ≤ d) : ∀ (f : Nat) (y : Nat) (g1 : List (List Int)), y < N → 0 ≤ rd b (y : Int) → rk (y : Int) < f → Net N M g1 → (∀ e ∈ A.trail b s f y, d ≤ A.get g1 e.1 e.2) →
 Sent N M g1 (A.push g1 d (A.trail b s f y)) s y d := by
 intro f
 induction f with
 | zero => intro y g1 hy hb hr; omega
 | succ f ih =>
  intro y g1 hy hb hr hn hd
  rw [A.trail] at hd ⊢
  by_cases c : (y : Int) = s
  · rw [if_pos c]
    obtain rfl : y = s := by omega
    exact ⟨hn, fun _ _ _ _ => rfl, fun u _ => by rw [A.push]; split <;> omega⟩
  · rw [if_neg c] at hd ⊢
    obtain ⟨a1, a2, a3, a4, a5⟩ := (ht y (by omega) (by omega) hb).2 c
    obtain ⟨x, hx⟩ := Int.eq_ofNat_of_zero_le a1
    rw [hx] at a2 a3 a4 hd ⊢
    have hxN : x < N := by omega
    have hxy : x ≠ y := by rintro rfl; omega
    have h0 := hd _ List.mem_cons_self
    simp only at h0
    have hS := pushE_sent hn hM x y hxN hy hxy d d0 h0
    obtain ⟨_, hg⟩ := pushE_get hn hM x y hxN hy hxy d d0 h0
    rw [A.push]
    have keep : ∀ (f' : Nat) (z : Nat), z < N → 0 ≤ rd b (z : Int) → rk (z : Int) ≤ rk (x : Int) → ∀ e ∈ A.trail b s f' z, A.get (A.pushE g1 d ((x : Int), (y : Int))) e.1 e.2 = A.get g1 e.1 e.2 := by
     intro f'
     induction f' with
     | zero => intro z _ _ _ e he; cases he
     | succ f' ih' =>
      intro z hz hbz hrz e he
      rw [A.trail] at he
      by_cases cz : (z : Int) = s
      · rw [if_pos cz] at he; cases he
      · rw [if_neg cz] at he
        obtain ⟨b1, b2, b3, b4, b5⟩ := (ht z (by omega) (by omega) hbz).2 cz
        obtain ⟨u, hu⟩ := Int.eq_ofNat_of_zero_le b1
        rw [hu] at b2 b3 b4 he
        rcases List.mem_cons.1 he with rfl | he
        · simp only
          rw [hg u z, if_neg, if_neg]
          · omega
          · rintro ⟨e1, e2⟩
            rw [e1, e2] at b4
            omega
          · rintro ⟨e1, e2⟩
            rw [e2] at hrz
            omega
        · exact ih' u (by omega) b3 (by omega) e he
    have hrest := ih x (A.pushE g1 d ((x : Int), (y : Int))) hxN a3 (by omega) hS.net (fun e he => by
      rw [keep f x hxN a3 (Nat.le_refl _) e he]
      exact hd e (List.mem_cons_of_mem _ he))
    refine ⟨hrest.net, fun a b' ha hb' => (hrest.same a b' ha hb').trans (hS.same a b' ha hb'), fun u hu => ?_⟩
    rw [hrest.row u hu, hS.row u hu]
    split <;> split <;> split <;> omega
end
def Cut (N : Nat) (g : List (List Int)) (s t : Nat) (X : Nat → Prop) : Prop := X s ∧ ¬ X t ∧ ∀ x y : Nat, x < N → y < N → X x → ¬ X y → A.get g x y = 0
theorem aug {N : Nat} {M : Int} {g : List (List Int)} (h : Net N M g) (hM : M ≤ 4611686018427387904) (s t : Nat) (hs : s < N) (ht : t < N) (hst : s ≠ t) (l : Int) (l0 : 0 < l) :
 ((A.augG g s t l = (g, 0)) ∧ ∃ X, Cut N g s t X) ∨ (0 < (A.augG g s t l).2 ∧ (A.augG g s t l).2 ≤ l ∧ Sent N M g (A.augG g s t l).1 s t (A.augG g s t l).2) := by
 have hgl := h.sq.1
 have hI := A.BI.init g N (s : Int) (by omega) (by omega)
 have hun : A.unv (A.initB N (s : Int)) + 1 = N := by
  unfold A.initB
  rw [A.unv_set _ (s : Int).toNat s (by simp; omega) (by simp) (by omega), A.unv_replicate]
 obtain ⟨q', hB, hor⟩ := A.bfs_end (t := (t : Int)) hgl (by omega) (by omega) (N + 1) (A.initB N s) [(s : Int)] hI (by simp; omega)
 have eb : A.before g s t = A.bfs g t (N + 1) (A.initB N s, [(s : Int)]) := by rw [A.before, hgl]
 unfold A.augG
 simp only
 rw [eb]
 generalize hb : A.bfs g t (N + 1) (A.initB N s, [(s : Int)]) = b at hB hor
 by_cases c : rd b (t : Int) < 0
 · left
   rw [if_pos c]
   refine ⟨rfl, fun x => 0 ≤ rd b (x : Int), ?_, by omega, fun x y hx hy hX hY => ?_⟩
   · show 0 ≤ rd b (s : Int)
     rw [hB.root]; omega
   · have hq : q' = [] := hor.resolve_right (by omega)
     subst hq
     by_cases e : 0 < A.get g x y
     · exact absurd (hB.closed x y (by omega) (by omega) (by omega) (by omega) hX (by simp) trivial e) hY
     · have := h.low x y hx hy; omega
 · right
   rw [if_neg c]
   obtain ⟨rk, hrk⟩ := trail_ok hB hs
   have hpos := trail_pos (g := g) (b := b) hs hrk g.length (t : Int) (by omega) (by omega) (by omega)
   have hl := lim_le g (A.trail b s g.length t) l
   have hlp := lim_pos g (A.trail b s g.length t) l l0 hpos
   refine ⟨hlp, hl.1, ?_⟩
   exact push_trail (g := g) (b := b) hs hrk hM _ (Int.le_of_lt hlp) g.length t g ht (by omega) (by rw [hgl]; exact (hrk t (by omega) (by omega) (by omega)).1) h hl.2
theorem flow {N : Nat} {M : Int} (hM : M ≤ 4611686018427387904) (s t : Nat) (hs : s < N) (ht : t < N) (hst : s ≠ t) (l : Int) : ∀ (f : Nat) (g : List (List Int)) (sent : Int), Net N M g → 0 ≤ sent → sent ≤ l → l - sent ≤ f →
 ∃ v, 0 ≤ v ∧ (A.flowG s t l f g sent).2 = sent + v ∧ sent + v ≤ l ∧ Sent N M g (A.flowG s t l f g sent).1 s t v ∧ (sent + v = l ∨ ∃ X, Cut N (A.flowG s t l f g sent).1 s t X) := by
 intro f
 induction f with
 | zero =>
  intro g sent h h0 h1 h2
  exact ⟨0, Int.le_refl _, by rw [A.flowG]; omega, by omega, by rw [A.flowG]; exact .refl h s t, Or.inl (by omega)⟩
 | succ f ih =>
  intro g sent h h0 h1 h2
  rw [A.flowG]
  by_cases c : sent < l
  · rw [if_pos c]
    simp only
    rcases aug h hM s t hs ht hst (l - sent) (by omega) with ⟨e, X, hX⟩ | ⟨a1, a2, a3⟩
    · rw [e]
      simp only [if_true]
      exact ⟨0, Int.le_refl _, by omega, by omega, .refl h s t, Or.inr ⟨X, hX⟩⟩
    · rw [if_neg (by omega)]
      obtain ⟨v, v0, v1, v2, v3, v4⟩ := ih (A.augG g s t (l - sent)).1 (sent + (A.augG g s t (l - sent)).2) a3.net (by omega) (by omega) (by omega)
      refine ⟨(A.augG g s t (l - sent)).2 + v, by omega, by omega, by omega, a3.trans v3, ?_⟩
      rcases v4 with v4 | v4
      · exact Or.inl (by omega)
      · exact Or.inr v4
  · rw [if_neg c]
    exact ⟨0, Int.le_refl _, by omega, by omega, .refl h s t, Or.inl (by omega)⟩
abbrev Nd : Type := Nat × Nat × Nat
def nS : Nd := (0, 0, 0)
def nE : Nd := (1, 0, 0)
def nH (f : Nat) : Nd := (2, f, 0)
def nT (k : Nat) : Nd := (3, k, 0)
def nP (f o : Nat) : Nd := (4, f, o)
def ix (n : Nat) (x : Nd) : Nat := if x.1 = 0 then 0 else if x.1 = 1 then 1 else if x.1 = 2 then 2 + x.2.1 else if x.1 = 3 then 2 + n + x.2.1 else 2 + 2 * n + x.2.1 * n + x.2.2
def Vd (n : Nat) (x : Nd) : Prop := x = nS ∨ x = nE ∨ (∃ f, f < n ∧ x = nH f) ∨ (∃ k, k < n ∧ x = nT k) ∨ (∃ f o, f < n ∧ o < n ∧ x = nP f o)
theorem vS (n : Nat) : Vd n nS := Or.inl rfl
theorem vE (n : Nat) : Vd n nE := Or.inr (Or.inl rfl)
theorem vH {n f : Nat} (h : f < n) : Vd n (nH f) := Or.inr (Or.inr (Or.inl ⟨f, h, rfl⟩))
theorem vT {n k : Nat} (h : k < n) : Vd n (nT k) := Or.inr (Or.inr (Or.inr (Or.inl ⟨k, h, rfl⟩)))
theorem vP {n f o : Nat} (h : f < n) (h' : o < n) : Vd n (nP f o) := Or.inr (Or.inr (Or.inr (Or.inr ⟨f, o, h, h', rfl⟩)))
theorem ixS (n : Nat) : ix n nS = 0 := rfl
theorem ixE (n : Nat) : ix n nE = 1 := rfl
theorem ixH (n f : Nat) : ix n (nH f) = 2 + f := rfl
theorem ixT (n k : Nat) : ix n (nT k) = 2 + n + k := rfl
theorem ixP (n f o : Nat) : ix n (nP f o) = 2 + 2 * n + f * n + o := rfl
theorem cell_lt {n f o : Nat} (hf : f < n) (ho : o < n) : f * n + o < n * n := by
 have h1 : (f + 1) * n ≤ n * n := Nat.mul_le_mul_right n hf
 rw [Nat.add_mul, Nat.one_mul] at h1
 omega
theorem cell_inj {n f o f' o' : Nat} (ho : o < n) (ho' : o' < n) (h : f * n + o = f' * n + o') : f = f' ∧ o = o' := by
 have key : ∀ a b c d : Nat, c < n → d < n → a < b → a * n + c ≠ b * n + d := fun a b c d hc hd hab e => by
  have h1 : (a + 1) * n ≤ b * n := Nat.mul_le_mul_right n hab
  rw [Nat.add_mul, Nat.one_mul] at h1
  omega
 by_cases c1 : f < f'
 · exact absurd h (key f f' o o' ho ho' c1)
 · by_cases c2 : f' < f
   · exact absurd h.symm (key f' f o' o ho' ho c2)
   · obtain rfl : f = f' := by omega
     exact ⟨rfl, by omega⟩
theorem ix_lt {n : Nat} {x : Nd} (h : Vd n x) : ix n x < A.netSize n := by
 have hz : A.netSize n = 2 + 2 * n + n * n := rfl
 rcases h with rfl | rfl | ⟨f, hf, rfl⟩ | ⟨k, hk, rfl⟩ | ⟨f, o, hf, ho, rfl⟩
 · rw [ixS]; omega
 · rw [ixE]; omega
 · rw [ixH]; omega
 · rw [ixT]; omega
 · have := cell_lt hf ho
   rw [ixP]; omega
theorem ix_inj {n : Nat} {x y : Nd} (h : Vd n x) (h' : Vd n y) (e : ix n x = ix n y) : x = y := by
 rcases h with rfl | rfl | ⟨f, hf, rfl⟩ | ⟨k, hk, rfl⟩ | ⟨f, o, hf, ho, rfl⟩ <;>
 rcases h' with rfl | rfl | ⟨f', hf', rfl⟩ | ⟨k', hk', rfl⟩ | ⟨f', o', hf', ho', rfl⟩ <;>
 simp only [ixS, ixE, ixH, ixT, ixP] at e <;>
 first
 | rfl
 | omega
 | (obtain rfl : f = f' := by omega
    rfl)
 | (obtain rfl : k = k' := by omega
    rfl)
 | (obtain ⟨rfl, rfl⟩ := cell_inj (n := n) (f := f) (f' := f') ho ho' (by omega)
    rfl)
theorem isum_split (f : Nat → Int) (a : Nat) : ∀ b, isum f (a + b) = isum f a + isum (fun i => f (a + i)) b := by
 intro b
 induction b with
 | zero => simp [isum]
 | succ b ih =>
  have e : isum f (a + (b + 1)) = isum f (a + b) + f (a + b) := rfl
  rw [e, ih, isum]; omega
theorem isum_cells (f : Nat → Int) (n : Nat) : ∀ m, isum f (m * n) = isum (fun i => isum (fun j => f (i * n + j)) n) m := by
 intro m
 induction m with
 | zero => simp [isum]
 | succ m ih => rw [Nat.add_mul, Nat.one_mul, isum_split, ih, isum]
def sumN (n : Nat) (φ : Nd → Int) : Int := φ nS + φ nE + isum (fun f => φ (nH f)) n + isum (fun k => φ (nT k)) n + isum (fun f => isum (fun o => φ (nP f o)) n) n
theorem isum_nodes (n : Nat) (F : Nat → Int) : isum F (A.netSize n) = sumN n (fun x => F (ix n x)) := by
 have hz : A.netSize n = 2 + (n + (n + n * n)) := by unfold A.netSize; omega
 have h2 : ∀ G : Nat → Int, isum G 2 = G 0 + G 1 := fun G => by simp [isum]
 rw [hz, isum_split F 2, isum_split (fun i => F (2 + i)) n, isum_split (fun i => F (2 + (n + i))) n, isum_cells (fun i => F (2 + (n + (n + i)))) n n, h2]
 unfold sumN
 simp only [ixS, ixE, ixH, ixT, ixP]
 have e1 : isum (fun i => F (2 + (n + i))) n = isum (fun k => F (2 + n + k)) n := isum_congr (fun i _ => by rw [Nat.add_assoc])
 have e2 : isum (fun i => isum (fun j => F (2 + (n + (n + (i * n + j))))) n) n = isum (fun f => isum (fun o => F (2 + 2 * n + f * n + o)) n) n := isum_congr (fun i _ => isum_congr (fun j _ => by rw [show 2 + (n + (n + (i * n + j))) = 2 + 2 * n + i * n + j from by omega]))
 rw [e1, e2]; omega
theorem sumN_congr {n : Nat} {φ ψ : Nd → Int} (h : ∀ x, Vd n x → φ x = ψ x) : sumN n φ = sumN n ψ := by
 unfold sumN
 rw [h nS (vS n), h nE (vE n), isum_congr (fun f hf => h (nH f) (vH hf)), isum_congr (fun k hk => h (nT k) (vT hk)), isum_congr (fun f hf => isum_congr (fun o ho => h (nP f o) (vP hf ho)))]
theorem sumN_add (n : Nat) (φ ψ : Nd → Int) : sumN n (fun x => φ x + ψ x) = sumN n φ + sumN n ψ := by
 unfold sumN
 rw [isum_add, isum_add, isum_congr (fun f _ => isum_add (fun o => φ (nP f o)) (fun o => ψ (nP f o)) n), isum_add]; simp only; omega
theorem sumN_sub (n : Nat) (φ ψ : Nd → Int) : sumN n (fun x => φ x - ψ x) = sumN n φ - sumN n ψ := by
 unfold sumN
 rw [isum_sub, isum_sub, isum_congr (fun f _ => isum_sub (fun o => φ (nP f o)) (fun o => ψ (nP f o)) n), isum_sub]; simp only; omega
theorem node_of {n x : Nat} (h : x < A.netSize n) : ∃ y, Vd n y ∧ ix n y = x := by
 have hz : A.netSize n = 2 + 2 * n + n * n := rfl
 by_cases c0 : x = 0
 · exact ⟨nS, vS n, by rw [ixS, c0]⟩
 by_cases c1 : x = 1
 · exact ⟨nE, vE n, by rw [ixE, c1]⟩
 by_cases c2 : x < 2 + n
 · exact ⟨nH (x - 2), vH (by omega), by rw [ixH]; omega⟩
 by_cases c3 : x < 2 + n + n
 · exact ⟨nT (x - 2 - n), vT (by omega), by rw [ixT]; omega⟩
 · have hn : 0 < n := by
    rcases Nat.eq_zero_or_pos n with rfl | h
    · omega
    · exact h
   have h1 := Nat.div_add_mod (x - 2 - 2 * n) n
   have h2 := Nat.mod_lt (x - 2 - 2 * n) hn
   have h3 : (x - 2 - 2 * n) / n < n := Nat.div_lt_of_lt_mul (by omega)
   refine ⟨nP ((x - 2 - 2 * n) / n) ((x - 2 - 2 * n) % n), vP h3 h2, ?_⟩
   rw [ixP, Nat.mul_comm ((x - 2 - 2 * n) / n) n]
   omega
section
variable (n : Nat) (has q : List Int) (t : List (List Int))
def overB (f : Nat) : Prop := rd q f < rd has f
def okM (f o k : Nat) : Prop := overB has q f ∧ o ≠ f ∧ k ≠ f ∧ k ≠ o ∧ ¬ overB has q k
open Classical in
noncomputable def cap (x y : Nd) : Int :=
 if x.1 = 0 then (if y.1 = 2 ∧ overB has q y.2.1 then rd has y.2.1 - rd q y.2.1 else 0)
 else if x.1 = 3 then (if y.1 = 1 ∧ ¬ overB has q x.2.1 then rd q x.2.1 - rd has x.2.1 else 0)
 else if x.1 = 2 then (if y.1 = 4 ∧ x.2.1 = y.2.1 ∧ overB has q x.2.1 then A.get t x.2.1 y.2.2 else 0)
 else if x.1 = 4 then (if y.1 = 3 ∧ okM has q x.2.1 x.2.2 y.2.1 then A.unlim else 0)
 else 0
theorem capSH (f : Nat) (h : overB has q f) : cap has q t nS (nH f) = rd has f - rd q f := by
 unfold cap nS nH; rw [if_pos rfl, if_pos ⟨rfl, h⟩]
theorem capTE (k : Nat) (h : ¬ overB has q k) : cap has q t (nT k) nE = rd q k - rd has k := by
 unfold cap nT nE; rw [if_neg (by simp), if_pos rfl, if_pos ⟨rfl, h⟩]
theorem capHP (f o : Nat) (h : overB has q f) : cap has q t (nH f) (nP f o) = A.get t f o := by
 unfold cap nH nP; rw [if_neg (by simp), if_neg (by simp), if_pos rfl, if_pos ⟨rfl, rfl, h⟩]
theorem capPT (f o k : Nat) (h : okM has q f o k) : cap has q t (nP f o) (nT k) = A.unlim := by
 unfold cap nP nT; rw [if_neg (by simp), if_neg (by simp), if_neg (by simp), if_pos rfl, if_pos ⟨rfl, h⟩]
theorem cap_cases {x y : Nd} (hx : Vd n x) (hy : Vd n y) (h : cap has q t x y ≠ 0) :
 (∃ f, f < n ∧ x = nS ∧ y = nH f ∧ overB has q f) ∨ (∃ k, k < n ∧ x = nT k ∧ y = nE ∧ ¬ overB has q k) ∨ (∃ f o, f < n ∧ o < n ∧ x = nH f ∧ y = nP f o ∧ overB has q f) ∨ (∃ f o k, f < n ∧ o < n ∧ k < n ∧ x = nP f o ∧ y = nT k ∧ okM has q f o k) := by
 rcases hx with rfl | rfl | ⟨f, hf, rfl⟩ | ⟨k, hk, rfl⟩ | ⟨f, o, hf, ho, rfl⟩
 · unfold cap nS at h
   rw [if_pos rfl] at h
   split at h
   · rename_i c
     rcases hy with rfl | rfl | ⟨f', hf', rfl⟩ | ⟨k', hk', rfl⟩ | ⟨f', o', hf', ho', rfl⟩
     · exact absurd c.1 (by simp [nS])
     · exact absurd c.1 (by simp [nE])
     · exact Or.inl ⟨f', hf', rfl, rfl, c.2⟩
     · exact absurd c.1 (by simp [nT])
     · exact absurd c.1 (by simp [nP])
   · exact absurd rfl h
 · unfold cap nE at h
   simp at h
 · unfold cap nH at h
   rw [if_neg (by simp), if_neg (by simp), if_pos rfl] at h
   split at h
   · rename_i c
     rcases hy with rfl | rfl | ⟨f', hf', rfl⟩ | ⟨k', hk', rfl⟩ | ⟨f', o', hf', ho', rfl⟩
     · exact absurd c.1 (by simp [nS])
     · exact absurd c.1 (by simp [nE])
     · exact absurd c.1 (by simp [nH])
     · exact absurd c.1 (by simp [nT])
     · have : f = f' := c.2.1
       subst this
       exact Or.inr (Or.inr (Or.inl ⟨f, o', hf, ho', rfl, rfl, c.2.2⟩))
   · exact absurd rfl h
 · unfold cap nT at h
   rw [if_neg (by simp), if_pos rfl] at h
   split at h
   · rename_i c
     rcases hy with rfl | rfl | ⟨f', hf', rfl⟩ | ⟨k', hk', rfl⟩ | ⟨f', o', hf', ho', rfl⟩
     · exact absurd c.1 (by simp [nS])
     · exact Or.inr (Or.inl ⟨k, hk, rfl, rfl, c.2⟩)
     · exact absurd c.1 (by simp [nH])
     · exact absurd c.1 (by simp [nT])
     · exact absurd c.1 (by simp [nP])
   · exact absurd rfl h
 · unfold cap nP at h
   rw [if_neg (by simp), if_neg (by simp), if_neg (by simp), if_pos rfl] at h
   split at h
   · rename_i c
     rcases hy with rfl | rfl | ⟨f', hf', rfl⟩ | ⟨k', hk', rfl⟩ | ⟨f', o', hf', ho', rfl⟩
     · exact absurd c.1 (by simp [nS])
     · exact absurd c.1 (by simp [nE])
     · exact absurd c.1 (by simp [nH])
     · exact Or.inr (Or.inr (Or.inr ⟨f, o, k', hf, ho, hk', rfl, rfl, c.2⟩))
     · exact absurd c.1 (by simp [nP])
   · exact absurd rfl h
open Classical in
def Stt (g : List (List Int)) (D : Nd → Nd → Prop) : Prop := A.Sqn (A.netSize n) g ∧ ∀ x y, Vd n x → Vd n y → A.get g (ix n x) (ix n y) = if D x y then cap has q t x y else 0
variable {n has q t}
theorem Stt.put {g : List (List Int)} {D : Nd → Nd → Prop} (h : Stt n has q t g D) {a b : Nd} (ha : Vd n a) (hb : Vd n b) {v : Int} (hv : v = cap has q t a b) (i j : Int) (hi : i = (ix n a : Int)) (hj : j = (ix n b : Int)) :
 Stt n has q t (A.upd g i j v) (fun x y => D x y ∨ (x = a ∧ y = b)) := by
 subst hi; subst hj
 refine ⟨h.1.upd _ _ _, fun x y hx hy => ?_⟩
 have l1 := ix_lt ha
 have l2 := ix_lt hb
 rw [A.get_upd h.1 _ _ _ _ _ (by omega) (by omega) (by omega) (by omega) (by omega) (by omega), h.2 x y hx hy]
 by_cases c : x = a ∧ y = b
 · obtain ⟨rfl, rfl⟩ := c
   rw [if_pos ⟨rfl, rfl⟩, if_pos (Or.inr ⟨rfl, rfl⟩), hv]
 · rw [if_neg (fun e => c ⟨ix_inj hx ha (by omega), ix_inj hy hb (by omega)⟩)]
   by_cases d : D x y
   · rw [if_pos d, if_pos (Or.inl d)]
   · rw [if_neg d, if_neg (fun e => e.elim d c)]
theorem Stt.congr {g : List (List Int)} {D D' : Nd → Nd → Prop} (h : Stt n has q t g D) (hd : ∀ x y, Vd n x → Vd n y → cap has q t x y ≠ 0 → (D x y ↔ D' x y)) : Stt n has q t g D' := by
 refine ⟨h.1, fun x y hx hy => ?_⟩
 rw [h.2 x y hx hy]
 by_cases c : cap has q t x y = 0
 · rw [c]; split <;> split <;> rfl
 · by_cases d : D x y
   · rw [if_pos d, if_pos ((hd x y hx hy c).1 d)]
   · rw [if_neg d, if_neg (fun e => d ((hd x y hx hy c).2 e))]
theorem stT {f o : Nat} (hf : f < n) (ho : o < n) (hov : overB has q f) : ∀ (m : Nat), m ≤ n → ∀ (s : List (List Int) × List S29) (D : Nd → Nd → Prop), Stt n has q t s.1 D →
 Stt n has q t (A.sTto n has q f o s m).1 (fun x y => D x y ∨ ∃ k, k < m ∧ x = nP f o ∧ y = nT k) := by
 intro m
 induction m with
 | zero => intro _ s D h; exact h.congr (fun x y _ _ _ => ⟨Or.inl, fun e => e.elim id (fun ⟨k, hk, _⟩ => by omega)⟩)
 | succ m ih =>
  intro hm s D h
  have h1 := ih (by omega) s D h
  rw [A.sTto, A.sT]
  by_cases c : (o : Int) ≠ (f : Int) ∧ (m : Int) ≠ (f : Int) ∧ (m : Int) ≠ (o : Int) ∧ rd has m ≤ rd q m
  · rw [if_pos c]
    have hok : okM has q f o m := ⟨hov, by omega, by omega, by omega, by unfold overB; omega⟩
    refine (h1.put (vP hf ho) (vT (show m < n by omega)) (capPT has q t f o m hok).symm _ _ (by rw [ixP]; unfold A.nodeP; push_cast; rfl) (by rw [ixT]; unfold A.nodeT; push_cast; rfl)).congr (fun x y _ _ _ => ?_)
    constructor
    · rintro ((e | ⟨k, hk, e⟩) | e)
      · exact Or.inl e
      · exact Or.inr ⟨k, by omega, e⟩
      · exact Or.inr ⟨m, by omega, e⟩
    · rintro (e | ⟨k, hk, e⟩)
      · exact Or.inl (Or.inl e)
      · by_cases ek : k = m
        · subst ek; exact Or.inr e
        · exact Or.inl (Or.inr ⟨k, by omega, e⟩)
  · rw [if_neg c]
    refine h1.congr (fun x y hx hy hne => ?_)
    constructor
    · rintro (e | ⟨k, hk, e⟩)
      · exact Or.inl e
      · exact Or.inr ⟨k, by omega, e⟩
    · rintro (e | ⟨k, hk, e⟩)
      · exact Or.inl e
      · by_cases ek : k = m
        · subst ek
          exfalso
          obtain ⟨rfl, rfl⟩ := e
          rcases cap_cases n has q t hx hy hne with ⟨_, _, e, _⟩ | ⟨_, _, e, _⟩ | ⟨_, _, _, _, e, _⟩ | ⟨f', o', k', _, _, _, e1, e2, hok⟩
          · simp [nP, nS] at e
          · simp [nP, nT] at e
          · simp [nP, nH] at e
          · simp only [nP, nT, Prod.mk.injEq, true_and, and_true] at e1 e2
            obtain ⟨rfl, rfl⟩ := e1
            subst e2
            obtain ⟨_, b1, b2, b3, b4⟩ := hok
            unfold overB at b4
            exact c ⟨by omega, by omega, by omega, by omega⟩
        · exact Or.inr ⟨k, by omega, e⟩
theorem stO {f : Nat} (hf : f < n) (hov : overB has q f) : ∀ (m : Nat), m ≤ n → ∀ (s : List (List Int) × List S29) (D : Nd → Nd → Prop), Stt n has q t s.1 D →
 Stt n has q t (A.sOto n has q t f s m).1 (fun x y => D x y ∨ ∃ o, o < m ∧ ((x = nH f ∧ y = nP f o) ∨ ∃ k, k < n ∧ x = nP f o ∧ y = nT k)) := by
 intro m
 induction m with
 | zero => intro _ s D h; exact h.congr (fun x y _ _ _ => ⟨Or.inl, fun e => e.elim id (fun ⟨k, hk, _⟩ => by omega)⟩)
 | succ m ih =>
  intro hm s D h
  have h1 := ih (by omega) s D h
  rw [A.sOto, A.sO]
  have h2 := h1.put (vH hf) (vP hf (show m < n by omega)) (capHP has q t f m hov).symm (A.nodeH f) (A.nodeP n f m) (by rw [ixH]; unfold A.nodeH; push_cast; rfl) (by rw [ixP]; unfold A.nodeP; push_cast; rfl)
  have h3 := stT hf (show m < n by omega) hov n (Nat.le_refl _) (A.upd (A.sOto n has q t f s m).1 (A.nodeH f) (A.nodeP n f m) (A.get t f m), (A.sOto n has q t f s m).2) _ h2
  refine h3.congr (fun x y _ _ _ => ?_)
  constructor
  · rintro (((e | ⟨o, ho, e⟩) | e) | ⟨k, hk, e⟩)
    · exact Or.inl e
    · exact Or.inr ⟨o, by omega, e⟩
    · exact Or.inr ⟨m, by omega, Or.inl e⟩
    · exact Or.inr ⟨m, by omega, Or.inr ⟨k, hk, e⟩⟩
  · rintro (e | ⟨o, ho, e⟩)
    · exact Or.inl (Or.inl (Or.inl e))
    · by_cases eo : o = m
      · subst eo
        rcases e with e | ⟨k, hk, e⟩
        · exact Or.inl (Or.inr e)
        · exact Or.inr ⟨k, hk, e⟩
      · exact Or.inl (Or.inl (Or.inr ⟨o, by omega, e⟩))
def fof (x y : Nd) : Nat := if x.1 = 0 then y.2.1 else x.2.1
theorem stF (hb : ∀ f : Nat, f < n → -1000000000000000000 ≤ rd has f - rd q f ∧ rd has f - rd q f ≤ 1000000000000000000) (s : List (List Int) × Int × List S29) (hs : Stt n has q t s.1 (fun _ _ => False)) : ∀ (m : Nat), m ≤ n → Stt n has q t (A.sFto n has q t s m).1 (fun x y => fof x y < m) := by
 intro m
 induction m with
 | zero => intro _; exact hs.congr (fun x y _ _ _ => ⟨False.elim, fun e => by omega⟩)
 | succ m ih =>
  intro hm
  have h1 := ih (by omega)
  have hbm := hb m (by omega)
  rw [A.sFto, A.sF]
  by_cases c : rd has m ≤ rd q m
  · rw [if_pos c]
    have hno : ¬ overB has q m := by unfold overB; omega
    refine (h1.put (vT (show m < n by omega)) (vE n) (v := wrap64 (rd q m - rd has m)) (by rw [capTE has q t m hno]; exact w64 (by omega)) (A.nodeT n m) 1 (by rw [ixT]; unfold A.nodeT; push_cast; rfl) (by rw [ixE]; rfl)).congr (fun x y hx hy hne => ?_)
    constructor
    · rintro (e | ⟨rfl, rfl⟩)
      · omega
      · show m < m + 1; omega
    · intro e
      by_cases e2 : fof x y < m
      · exact Or.inl e2
      · have e3 : fof x y = m := by omega
        rcases cap_cases n has q t hx hy hne with ⟨f, _, rfl, rfl, ho⟩ | ⟨k, _, rfl, rfl, _⟩ | ⟨f, o, _, _, rfl, rfl, ho⟩ | ⟨f, o, k, _, _, _, rfl, rfl, hok⟩
        · have : f = m := e3
          subst this; exact absurd ho hno
        · have : k = m := e3
          subst this; exact Or.inr ⟨rfl, rfl⟩
        · have : f = m := e3
          subst this; exact absurd ho hno
        · have : f = m := e3
          subst this; exact absurd hok.1 hno
  · rw [if_neg c]
    have hov : overB has q m := by unfold overB; omega
    have h2 := h1.put (vS n) (vH (show m < n by omega)) (v := wrap64 (rd has m - rd q m)) (by rw [capSH has q t m hov]; exact w64 (by omega)) 0 (A.nodeH m) (by rw [ixS]; rfl) (by rw [ixH]; unfold A.nodeH; push_cast; rfl)
    have h3 := stO (show m < n by omega) hov n (Nat.le_refl _) (A.upd (A.sFto n has q t s m).1 0 (A.nodeH m) (wrap64 (rd has m - rd q m)), (A.sFto n has q t s m).2.2) _ h2
    refine h3.congr (fun x y hx hy hne => ?_)
    constructor
    · rintro ((e | ⟨rfl, rfl⟩) | ⟨o, ho, ⟨rfl, rfl⟩ | ⟨k, hk, rfl, rfl⟩⟩)
      · omega
      · show m < m + 1; omega
      · show m < m + 1; omega
      · show m < m + 1; omega
    · intro e
      by_cases e2 : fof x y < m
      · exact Or.inl (Or.inl e2)
      · have e3 : fof x y = m := by omega
        rcases cap_cases n has q t hx hy hne with ⟨f, _, rfl, rfl, ho⟩ | ⟨k, _, rfl, rfl, hk⟩ | ⟨f, o, _, ho', rfl, rfl, ho⟩ | ⟨f, o, k, _, ho', hk', rfl, rfl, hok⟩
        · have : f = m := e3
          subst this; exact Or.inl (Or.inr ⟨rfl, rfl⟩)
        · have : k = m := e3
          subst this; exact absurd hov hk
        · have : f = m := e3
          subst this; exact Or.inr ⟨o, ho', Or.inl ⟨rfl, rfl⟩⟩
        · have : f = m := e3
          subst this; exact Or.inr ⟨o, ho', Or.inr ⟨k, hk', rfl, rfl⟩⟩
end
theorem zero_get (n : Nat) (x y : Nat) : A.get (A.zeroNet n) x y = 0 := by
 unfold A.get A.zeroNet rd_L1
 rw [Int.toNat_natCast, List.getD_eq_getElem?_getD, List.getElem?_replicate]
 split
 · simp only [Option.getD_some]
   unfold rd
   rw [Int.toNat_natCast, List.getD_eq_getElem?_getD, List.getElem?_replicate]
   split <;> rfl
 · rfl
theorem built {t : List (List Int)} {q : List Int} (h : A.fitsT t q = true) : A.Sqn (A.netSize t.length) (A.buildNet t q).1 ∧ ∀ x y, Vd t.length x → Vd t.length y → A.get (A.buildNet t q).1 (ix t.length x) (ix t.length y) = cap (A.heldT t) q t x y := by
 have hv : A.validT t = true := by
  rw [A.fitsT, Bool.and_eq_true] at h
  exact h.1
 have key := stF (n := t.length) (has := A.heldT t) (q := q) (t := t) (fun f hf => by
   have h1 := A.held_bound hv f (by omega) (by omega)
   have h2 := A.quota_bound h f (by omega) (by omega)
   omega) (A.zeroNet t.length, 0, []) ⟨A.zeroNet_sq _, fun x y _ _ => by rw [zero_get, if_neg (fun e => e)]⟩ t.length (Nat.le_refl _)
 refine ⟨key.1, fun x y hx hy => ?_⟩
 rw [show A.buildNet t q = A.sFto t.length (A.heldT t) q t (A.zeroNet t.length, 0, []) t.length from rfl, key.2 x y hx hy]
 by_cases c : cap (A.heldT t) q t x y = 0
 · rw [c]; split <;> rfl
 · rw [if_pos]
   rcases cap_cases t.length _ q t hx hy c with ⟨f, hf, rfl, rfl, _⟩ | ⟨k, hk, rfl, rfl, _⟩ | ⟨f, o, hf, _, rfl, rfl, _⟩ | ⟨f, o, k, hf, _, _, rfl, rfl, _⟩
   · exact hf
   · exact hk
   · exact hf
   · exact hf
open Classical in
theorem over_eq {t : List (List Int)} {q : List Int} (h : A.fitsT t q = true) : ∀ m : Nat, m ≤ t.length → (A.sFto t.length (A.heldT t) q t (A.zeroNet t.length, 0, []) m).2.1 = isum (fun f => if overB (A.heldT t) q f then rd (A.heldT t) f - rd q f else 0) m ∧ 0 ≤ isum (fun f => if overB (A.heldT t) q f then rd (A.heldT t) f - rd q f else 0) m ∧ isum (fun f => if overB (A.heldT t) q f then rd (A.heldT t) f - rd q f else 0) m ≤ m * 13194139533312 := by
 have hv : A.validT t = true := by
  rw [A.fitsT, Bool.and_eq_true] at h
  exact h.1
 have h12 := (A.valid_sq hv).1
 intro m
 induction m with
 | zero => intro _; exact ⟨rfl, Int.le_refl _, by simp [isum]⟩
 | succ m ih =>
  intro hm
  obtain ⟨i1, i2, i3⟩ := ih (by omega)
  have h1 := A.held_bound hv m (by omega) (by omega)
  have h2 := A.quota_bound h m (by omega) (by omega)
  rw [A.sFto, A.sF]
  by_cases c : rd (A.heldT t) m ≤ rd q m
  · have hno : ¬ overB (A.heldT t) q m := by unfold overB; omega
    rw [if_pos c, isum, if_neg hno]
    simp only
    refine ⟨by rw [i1]; omega, by omega, by push_cast; omega⟩
  · have hov : overB (A.heldT t) q m := by unfold overB; omega
    rw [if_neg c, isum, if_pos hov]
    simp only
    have w1 : wrap64 (rd (A.heldT t) m - rd q m) = rd (A.heldT t) m - rd q m := w64 (by omega)
    refine ⟨?_, by omega, by push_cast; omega⟩
    rw [w1, i1]
    exact w64 (by omega)
theorem isum_mono {f g : Nat → Int} : ∀ {n : Nat}, (∀ i, i < n → f i ≤ g i) → isum f n ≤ isum g n := by
 intro n
 induction n with
 | zero => intro _; exact Int.le_refl _
 | succ n ih =>
  intro h
  have h1 := ih (fun i hi => h i (by omega))
  have h2 := h n (by omega)
  rw [isum, isum]; omega
theorem isum_nonneg {f : Nat → Int} {n : Nat} (h : ∀ i, i < n → 0 ≤ f i) : 0 ≤ isum f n := by
 have := isum_mono (f := fun _ => 0) (g := f) (n := n) h
 rw [isum_zero] at this
 exact this
theorem isum_one {f : Nat → Int} : ∀ {n : Nat} (i : Nat), i < n → (∀ i, i < n → 0 ≤ f i) → f i ≤ isum f n := by
 intro n
 induction n with
 | zero => intro i hi; omega
 | succ n ih =>
  intro i hi h
  rw [isum]
  have h1 := h n (by omega)
  have h2 := isum_nonneg (fun i hi => h i (show i < n + 1 by omega)) (n := n)
  by_cases e : i = n
  · subst e; omega
  · have := ih i (by omega) (fun i hi => h i (by omega)); omega
theorem sumN_def (n : Nat) (φ : Nd → Int) : sumN n φ = φ nS + φ nE + isum (fun f => φ (nH f)) n + isum (fun k => φ (nT k)) n + isum (fun f => isum (fun o => φ (nP f o)) n) n := rfl
theorem sumN_nonneg {n : Nat} {φ : Nd → Int} (h : ∀ x, Vd n x → 0 ≤ φ x) : 0 ≤ sumN n φ := by
 unfold sumN
 have h1 := h nS (vS n)
 have h2 := h nE (vE n)
 have h3 := isum_nonneg (fun f hf => h (nH f) (vH hf)) (n := n)
 have h4 := isum_nonneg (fun f hf => h (nT f) (vT hf)) (n := n)
 have h5 := isum_nonneg (fun f hf => isum_nonneg (fun o ho => h (nP f o) (vP hf ho)) (n := n)) (n := n)
 omega
theorem sumN_H {n : Nat} {φ : Nd → Int} (h : ∀ x, Vd n x → 0 ≤ φ x) : isum (fun f => φ (nH f)) n ≤ sumN n φ := by
 unfold sumN
 have h1 := h nS (vS n)
 have h2 := h nE (vE n)
 have h4 := isum_nonneg (fun f hf => h (nT f) (vT hf)) (n := n)
 have h5 := isum_nonneg (fun f hf => isum_nonneg (fun o ho => h (nP f o) (vP hf ho)) (n := n)) (n := n)
 omega
theorem sumN_T {n : Nat} {φ : Nd → Int} (h : ∀ x, Vd n x → 0 ≤ φ x) : isum (fun k => φ (nT k)) n ≤ sumN n φ := by
 unfold sumN
 have h1 := h nS (vS n)
 have h2 := h nE (vE n)
 have h3 := isum_nonneg (fun f hf => h (nH f) (vH hf)) (n := n)
 have h5 := isum_nonneg (fun f hf => isum_nonneg (fun o ho => h (nP f o) (vP hf ho)) (n := n)) (n := n)
 omega
theorem sumN_P {n : Nat} {φ : Nd → Int} (h : ∀ x, Vd n x → 0 ≤ φ x) (f : Nat) (hf : f < n) : isum (fun o => φ (nP f o)) n ≤ sumN n φ := by
 unfold sumN
 have h1 := h nS (vS n)
 have h2 := h nE (vE n)
 have h3 := isum_nonneg (fun f hf => h (nH f) (vH hf)) (n := n)
 have h4 := isum_nonneg (fun f hf => h (nT f) (vT hf)) (n := n)
 have h5 := isum_one (f := fun f => isum (fun o => φ (nP f o)) n) (n := n) f hf (fun f hf => isum_nonneg (fun o ho => h (nP f o) (vP hf ho)) (n := n))
 try simp only at h5
 omega
theorem sumN_E {n : Nat} {φ : Nd → Int} (h : ∀ x, Vd n x → 0 ≤ φ x) : φ nE ≤ sumN n φ := by
 unfold sumN
 have h1 := h nS (vS n)
 have h3 := isum_nonneg (fun f hf => h (nH f) (vH hf)) (n := n)
 have h4 := isum_nonneg (fun f hf => h (nT f) (vT hf)) (n := n)
 have h5 := isum_nonneg (fun f hf => isum_nonneg (fun o ho => h (nP f o) (vP hf ho)) (n := n)) (n := n)
 omega
open Classical in
theorem cut_value {N : Nat} {M : Int} {g g' : List (List Int)} {s t : Nat} {v : Int} (hS : Sent N M g g' s t v) (hs : s < N) (ht : t < N) {X : Nat → Prop} (hX : Cut N g' s t X) :
 v = isum (fun u => isum (fun y => if X u ∧ ¬ X y then A.get g u y else 0) N) N := by
 obtain ⟨xs, xt, hz⟩ := hX
 have e1 : isum (fun u => if X u then R N g u - R N g' u else 0) N = v := by
  rw [isum_congr (g := fun u => if u = s then v else 0) (fun u hu => by
    rw [hS.row u hu]
    by_cases c : X u
    · rw [if_pos c]
      have : u ≠ t := fun e => xt (e ▸ c)
      rw [if_neg this]
      split <;> omega
    · rw [if_neg c]
      have : u ≠ s := fun e => c (e ▸ xs)
      rw [if_neg this]), isum_pt, if_pos hs]
 have e2 : ∀ u, u < N → (if X u then R N g u - R N g' u else 0) = isum (fun y => if X u then A.get g u y - A.get g' u y else 0) N := fun u _ => by
  by_cases c : X u
  · rw [if_pos c]
    unfold R
    rw [← isum_sub]
    exact isum_congr (fun y _ => by rw [if_pos c])
  · rw [if_neg c, isum_congr (g := fun _ => 0) (fun y _ => by rw [if_neg c]), isum_zero]
 have e3 : ∀ u, u < N → isum (fun y => if X u then A.get g u y - A.get g' u y else 0) N = isum (fun y => if X u ∧ ¬ X y then A.get g u y else 0) N + isum (fun y => if X u ∧ X y then A.get g u y - A.get g' u y else 0) N := fun u hu => by
  rw [← isum_add]
  refine isum_congr (fun y hy => ?_)
  by_cases c : X u
  · by_cases d : X y
    · rw [if_pos c, if_neg (fun e => e.2 d), if_pos ⟨c, d⟩]; omega
    · rw [if_pos c, if_pos ⟨c, d⟩, if_neg (fun e => d e.2), hz u y hu hy c d]; omega
  · rw [if_neg c, if_neg (fun e => c e.1), if_neg (fun e => c e.1)]; rfl
 have e4 : isum (fun u => isum (fun y => if X u ∧ X y then A.get g u y - A.get g' u y else 0) N) N = 0 := by
  have sw := isum_swap (fun u y => if X u ∧ X y then A.get g u y - A.get g' u y else 0) N N
  have ng : isum (fun y => isum (fun u => if X u ∧ X y then A.get g u y - A.get g' u y else 0) N) N = isum (fun u => 0 - isum (fun y => if X u ∧ X y then A.get g u y - A.get g' u y else 0) N) N := by
   refine isum_congr (fun u hu => ?_)
   have : isum (fun y => (0 : Int) - (if X u ∧ X y then A.get g u y - A.get g' u y else 0)) N = isum (fun _ => 0) N - isum (fun y => if X u ∧ X y then A.get g u y - A.get g' u y else 0) N := isum_sub (fun _ => 0) _ N
   rw [isum_zero] at this
   rw [← this]
   refine isum_congr (fun y hy => ?_)
   have := hS.same u y hu hy
   by_cases c : X u ∧ X y
   · rw [if_pos c, if_pos ⟨c.2, c.1⟩]; omega
   · rw [if_neg c, if_neg (fun e => c ⟨e.2, e.1⟩)]; rfl
  rw [ng, isum_sub, isum_zero] at sw
  omega
 have e5 : isum (fun u => if X u then R N g u - R N g' u else 0) N = isum (fun u => isum (fun y => if X u ∧ ¬ X y then A.get g u y else 0) N) N + isum (fun u => isum (fun y => if X u ∧ X y then A.get g u y - A.get g' u y else 0) N) N := by
  rw [← isum_add]
  exact isum_congr (fun u hu => by rw [e2 u hu, e3 u hu])
 omega
section
variable {t : List (List Int)} {q : List Int} (hf : A.fitsT t q = true)
include hf
theorem fit_valid : A.validT t = true := by
 rw [A.fitsT, Bool.and_eq_true] at hf
 exact hf.1
theorem cap_range {x y : Nd} (hx : Vd t.length x) (hy : Vd t.length y) : 0 ≤ cap (A.heldT t) q t x y ∧ cap (A.heldT t) q t x y ≤ 1125899906842624 := by
 have hv := fit_valid hf
 by_cases c : cap (A.heldT t) q t x y = 0
 · rw [c]; omega
 · rcases cap_cases t.length _ q t hx hy c with ⟨f, h1, rfl, rfl, ho⟩ | ⟨k, h1, rfl, rfl, ho⟩ | ⟨f, o, h1, h2, rfl, rfl, ho⟩ | ⟨f, o, k, h1, h2, h3, rfl, rfl, ho⟩
   · rw [capSH _ _ _ _ ho]
     have a := A.held_bound hv f (by omega) (by omega)
     have b := A.quota_bound hf f (by omega) (by omega)
     unfold overB at ho
     omega
   · rw [capTE _ _ _ _ ho]
     have a := A.held_bound hv k (by omega) (by omega)
     have b := A.quota_bound hf k (by omega) (by omega)
     unfold overB at ho
     omega
   · rw [capHP _ _ _ _ _ ho]
     have := (A.valid_good hv).2 f o (by omega) (by omega) (by omega) (by omega)
     omega
   · rw [capPT _ _ _ _ _ _ ho]
     unfold A.unlim; omega
theorem built_net : Net (A.netSize t.length) 2251799813685248 (A.buildNet t q).1 := by
 obtain ⟨h1, h2⟩ := built hf
 refine ⟨h1, fun x y hx hy => ?_, fun x y hx hy => ?_⟩
 · obtain ⟨a, ha, rfl⟩ := node_of hx
   obtain ⟨b, hb, rfl⟩ := node_of hy
   rw [h2 a b ha hb]; exact (cap_range hf ha hb).1
 · obtain ⟨a, ha, rfl⟩ := node_of hx
   obtain ⟨b, hb, rfl⟩ := node_of hy
   rw [h2 a b ha hb, h2 b a hb ha]
   have r1 := (cap_range hf ha hb).2
   have r2 := (cap_range hf hb ha).2
   omega
open Classical in
theorem relief_full (M : Nat → Nat → Nat → Int) (h0 : ∀ f o k, f < t.length → o < t.length → k < t.length → 0 ≤ M f o k) (hz : ∀ f o k, f < t.length → o < t.length → k < t.length → M f o k ≠ 0 → okM (A.heldT t) q f o k)
 (hu : ∀ f o k, f < t.length → o < t.length → k < t.length → M f o k ≤ 1125899906842624) (ht : ∀ f o, f < t.length → o < t.length → isum (M f o) t.length ≤ A.get t f o)
 (hg : ∀ f, f < t.length → overB (A.heldT t) q f → isum (fun o => isum (M f o) t.length) t.length = rd (A.heldT t) f - rd q f)
 (hk : ∀ k, k < t.length → ¬ overB (A.heldT t) q k → isum (fun f => isum (fun o => M f o k) t.length) t.length ≤ rd q k - rd (A.heldT t) k) : (A.settleOut t q).2 = 0 := by
 have hv := fit_valid hf
 obtain ⟨_, hcap⟩ := built hf
 have hnet := built_net hf
 obtain ⟨ho, ho0, _⟩ := over_eq hf t.length (Nat.le_refl _)
 have hob : (A.buildNet t q).2.1 = isum (fun f => if overB (A.heldT t) q f then rd (A.heldT t) f - rd q f else 0) t.length := ho
 generalize hn : t.length = n at *
 generalize hhas : A.heldT t = has at *
 have l0 : (0 : Nat) < A.netSize n := ix_lt (vS n)
 have l1 : (1 : Nat) < A.netSize n := ix_lt (vE n)
 obtain ⟨v, v0, v1, v2, v3, v4⟩ := flow (N := A.netSize n) (M := 2251799813685248) (by omega) 0 1 l0 l1 (by omega) (A.buildNet t q).2.1 (A.buildNet t q).2.1.toNat (A.buildNet t q).1 0 hnet (Int.le_refl _) (by omega) (by omega)
 have goal : (A.buildNet t q).2.1 ≤ v → (A.settleOut t q).2 = 0 := fun hle => by
  unfold A.settleOut
  rw [if_pos hf]
  simp only
  rw [if_neg]
  have : (A.flowG 0 1 (A.buildNet t q).2.1 (A.buildNet t q).2.1.toNat (A.buildNet t q).1 0).2 = 0 + v := v1
  omega
 rcases v4 with v4 | ⟨X, hX⟩
 · exact goal (by omega)
 · refine goal ?_
   have hval := cut_value v3 l0 l1 hX
   rw [isum_nodes, sumN_congr (ψ := fun x => sumN n (fun y => if X (ix n x) ∧ ¬ X (ix n y) then cap has q t x y else 0)) (fun x hx => by
     rw [isum_nodes]
     exact sumN_congr (fun y hy => by rw [hcap x y hx hy]))] at hval
   have nn : ∀ x y, Vd n x → Vd n y → 0 ≤ (if X (ix n x) ∧ ¬ X (ix n y) then cap has q t x y else 0) := fun x y hx hy => by
    have := cap_range hf (x := x) (y := y) (by rw [hn]; exact hx) (by rw [hn]; exact hy)
    rw [hhas] at this
    split <;> omega
   have nz : ∀ x y, Vd n x → Vd n y → 0 ≤ cap has q t x y := fun x y hx hy => by
    have := cap_range hf (x := x) (y := y) (by rw [hn]; exact hx) (by rw [hn]; exact hy)
    rw [hhas] at this
    exact this.1
   have xs : X (ix n nS) := hX.1
   have xe : ¬ X (ix n nE) := hX.2.1
   have wS : isum (fun f => if X (ix n (nH f)) then 0 else (if overB has q f then rd has f - rd q f else 0)) n ≤ sumN n (fun y => if X (ix n nS) ∧ ¬ X (ix n y) then cap has q t nS y else 0) := by
    refine Int.le_trans (isum_mono (fun f hfn => ?_)) (sumN_H (fun y hy => nn nS y (vS n) hy))
    by_cases c : X (ix n (nH f))
    · rw [if_pos c, if_neg (fun e => e.2 c)]; exact Int.le_refl _
    · rw [if_neg c]
      by_cases d : overB has q f
      · rw [if_pos d, if_pos ⟨xs, c⟩, capSH has q t f d]; exact Int.le_refl _
      · rw [if_neg d, if_pos ⟨xs, c⟩]; exact nz _ _ (vS n) (vH hfn)
   have wH : ∀ f, f < n → isum (fun o => if X (ix n (nH f)) ∧ ¬ X (ix n (nP f o)) then isum (M f o) n else 0) n ≤ sumN n (fun y => if X (ix n (nH f)) ∧ ¬ X (ix n y) then cap has q t (nH f) y else 0) := fun f hfn => by
    refine Int.le_trans (isum_mono (fun o hon => ?_)) (sumN_P (fun y hy => nn (nH f) y (vH hfn) hy) f hfn)
    by_cases c : X (ix n (nH f)) ∧ ¬ X (ix n (nP f o))
    · rw [if_pos c, if_pos c]
      by_cases d : overB has q f
      · rw [capHP has q t f o d]; exact ht f o hfn hon
      · have : isum (M f o) n = 0 := by
         rw [isum_congr (g := fun _ => 0) (fun k hk' => by
           by_cases e : M f o k = 0
           · exact e
           · exact absurd (hz f o k hfn hon hk' e).1 d), isum_zero]
        rw [this]; exact nz _ _ (vH hfn) (vP hfn hon)
    · rw [if_neg c, if_neg c]; exact Int.le_refl _
   have wP : ∀ f o, f < n → o < n → isum (fun k => if X (ix n (nP f o)) ∧ ¬ X (ix n (nT k)) then M f o k else 0) n ≤ sumN n (fun y => if X (ix n (nP f o)) ∧ ¬ X (ix n y) then cap has q t (nP f o) y else 0) := fun f o hfn hon => by
    refine Int.le_trans (isum_mono (fun k hkn => ?_)) (sumN_T (fun y hy => nn (nP f o) y (vP hfn hon) hy))
    by_cases c : X (ix n (nP f o)) ∧ ¬ X (ix n (nT k))
    · rw [if_pos c, if_pos c]
      by_cases e : M f o k = 0
      · rw [e]; exact nz _ _ (vP hfn hon) (vT hkn)
      · rw [capPT has q t f o k (hz f o k hfn hon hkn e)]; exact hu f o k hfn hon hkn
    · rw [if_neg c, if_neg c]; exact Int.le_refl _
   have wT : ∀ k, k < n → (if X (ix n (nT k)) then isum (fun f => isum (fun o => M f o k) n) n else 0) ≤ sumN n (fun y => if X (ix n (nT k)) ∧ ¬ X (ix n y) then cap has q t (nT k) y else 0) := fun k hkn => by
    refine Int.le_trans ?_ (sumN_E (fun y hy => nn (nT k) y (vT hkn) hy))
    by_cases c : X (ix n (nT k))
    · rw [if_pos c, if_pos ⟨c, xe⟩]
      by_cases d : overB has q k
      · have : isum (fun f => isum (fun o => M f o k) n) n = 0 := by
         rw [isum_congr (g := fun _ => 0) (fun f hfn => by
           rw [isum_congr (g := fun _ => 0) (fun o hon => by
             by_cases e : M f o k = 0
             · exact e
             · exact absurd d (hz f o k hfn hon hkn e).2.2.2.2), isum_zero]), isum_zero]
        rw [this]; exact nz _ _ (vT hkn) (vE n)
      · rw [capTE has q t k d]; exact hk k hkn d
    · rw [if_neg c, if_neg (fun e => c e.1)]; exact Int.le_refl _
   have wE := sumN_nonneg (fun y hy => nn nE y (vE n) hy)
   have split1 : ∀ f, f < n → (if overB has q f then rd has f - rd q f else 0) ≤ (if X (ix n (nH f)) then 0 else (if overB has q f then rd has f - rd q f else 0)) + isum (fun o => (if X (ix n (nH f)) ∧ ¬ X (ix n (nP f o)) then isum (M f o) n else 0) + isum (fun k => (if X (ix n (nP f o)) ∧ ¬ X (ix n (nT k)) then M f o k else 0) + (if X (ix n (nT k)) then M f o k else 0)) n) n := fun f hfn => by
    have nnI : ∀ o, o < n → 0 ≤ isum (fun k => (if X (ix n (nP f o)) ∧ ¬ X (ix n (nT k)) then M f o k else 0) + (if X (ix n (nT k)) then M f o k else 0)) n := fun o hon => isum_nonneg (fun k hkn => by
      have := h0 f o k hfn hon hkn
      split <;> split <;> omega)
    have nnM : ∀ o, o < n → 0 ≤ isum (M f o) n := fun o hon => isum_nonneg (fun k hkn => h0 f o k hfn hon hkn)
    by_cases c : X (ix n (nH f))
    · rw [if_pos c, Int.zero_add]
      by_cases d : overB has q f
      · rw [if_pos d, ← hg f hfn d]
        refine isum_mono (fun o hon => ?_)
        by_cases e : X (ix n (nP f o))
        · rw [if_neg (fun z => z.2 e), Int.zero_add]
          refine isum_mono (fun k hkn => ?_)
          by_cases z : X (ix n (nT k))
          · rw [if_neg (fun y => y.2 z), if_pos z]; omega
          · rw [if_pos ⟨e, z⟩, if_neg z]; omega
        · rw [if_pos ⟨c, e⟩]
          have := nnI o hon
          omega
      · rw [if_neg d]
        exact isum_nonneg (fun o hon => by
          have a := nnI o hon
          have b := nnM o hon
          split <;> omega)
    · rw [if_neg c]
      have := isum_nonneg (n := n) (f := fun o => (if X (ix n (nH f)) ∧ ¬ X (ix n (nP f o)) then isum (M f o) n else 0) + isum (fun k => (if X (ix n (nP f o)) ∧ ¬ X (ix n (nT k)) then M f o k else 0) + (if X (ix n (nT k)) then M f o k else 0)) n) (fun o hon => by
        have a := nnI o hon
        have b := nnM o hon
        try simp only
        split <;> omega)
      omega
   have total := isum_mono split1
   rw [isum_add] at total
   have ex : isum (fun f => isum (fun o => (if X (ix n (nH f)) ∧ ¬ X (ix n (nP f o)) then isum (M f o) n else 0) + isum (fun k => (if X (ix n (nP f o)) ∧ ¬ X (ix n (nT k)) then M f o k else 0) + (if X (ix n (nT k)) then M f o k else 0)) n) n) n
    = isum (fun f => isum (fun o => if X (ix n (nH f)) ∧ ¬ X (ix n (nP f o)) then isum (M f o) n else 0) n) n + (isum (fun f => isum (fun o => isum (fun k => if X (ix n (nP f o)) ∧ ¬ X (ix n (nT k)) then M f o k else 0) n) n) n + isum (fun f => isum (fun o => isum (fun k => if X (ix n (nT k)) then M f o k else 0) n) n) n) := by
    rw [← isum_add, ← isum_add]
    refine isum_congr (fun f _ => ?_)
    rw [← isum_add, ← isum_add]
    refine isum_congr (fun o _ => ?_)
    rw [← isum_add]
   have ey : isum (fun f => isum (fun o => isum (fun k => if X (ix n (nT k)) then M f o k else 0) n) n) n = isum (fun k => if X (ix n (nT k)) then isum (fun f => isum (fun o => M f o k) n) n else 0) n := by
    rw [isum_congr (fun f _ => isum_swap (fun o k => if X (ix n (nT k)) then M f o k else 0) n n), isum_swap (fun f k => isum (fun o => if X (ix n (nT k)) then M f o k else 0) n) n n]
    refine isum_congr (fun k _ => ?_)
    by_cases c : X (ix n (nT k))
    · rw [if_pos c]
      exact isum_congr (fun f _ => isum_congr (fun o _ => by rw [if_pos c]))
    · rw [if_neg c, isum_congr (g := fun _ => 0) (fun f _ => by rw [isum_congr (g := fun _ => 0) (fun o _ => by rw [if_neg c]), isum_zero]), isum_zero]
   have bH := isum_mono wH
   have bP := isum_mono (fun f hfn => isum_mono (fun o hon => wP f o hfn hon))
   have bT := isum_mono wT
   rw [sumN_def] at hval
   rw [hob]
   omega
end
def mk29 (f o k : Nat) (b : Int) : S29 := ⟨(f : Int), (k : Int), (o : Int), b⟩
def ltM (x y : S29) : Prop := x.f0 < y.f0 ∨ (x.f0 = y.f0 ∧ (x.f2 < y.f2 ∨ (x.f2 = y.f2 ∧ x.f1 < y.f1)))
structure Lst (n : Nat) (D : Nat → Nat → Nat → Prop) (L : List S29) : Prop where
 all : ∀ m ∈ L, ∃ f o k, f < n ∧ o < n ∧ k < n ∧ D f o k ∧ m = mk29 f o k 0
 srt : L.Pairwise ltM
 has : ∀ f o k, f < n → o < n → k < n → D f o k → mk29 f o k 0 ∈ L
theorem Lst.congr {n : Nat} {D D' : Nat → Nat → Nat → Prop} {L : List S29} (h : Lst n D L) (hd : ∀ f o k, f < n → o < n → k < n → (D f o k ↔ D' f o k)) : Lst n D' L :=
 ⟨fun m hm => by obtain ⟨f, o, k, a, b, c, d, e⟩ := h.all m hm
                 exact ⟨f, o, k, a, b, c, (hd f o k a b c).1 d, e⟩, h.srt, fun f o k a b c d => h.has f o k a b c ((hd f o k a b c).2 d)⟩
theorem Lst.snoc {n : Nat} {D : Nat → Nat → Nat → Prop} {L : List S29} (h : Lst n D L) (f o k : Nat) (hf : f < n) (ho : o < n) (hk : k < n) (hlt : ∀ f' o' k', f' < n → o' < n → k' < n → D f' o' k' → f' < f ∨ (f' = f ∧ (o' < o ∨ (o' = o ∧ k' < k)))) :
 Lst n (fun f' o' k' => D f' o' k' ∨ (f' = f ∧ o' = o ∧ k' = k)) (L ++ [mk29 f o k 0]) := by
 refine ⟨fun m hm => ?_, ?_, fun f' o' k' a b c d => ?_⟩
 · rcases List.mem_append.1 hm with hm | hm
   · obtain ⟨f', o', k', a, b, c, d, e⟩ := h.all m hm
     exact ⟨f', o', k', a, b, c, Or.inl d, e⟩
   · rw [List.mem_singleton.1 hm]
     exact ⟨f, o, k, hf, ho, hk, Or.inr ⟨rfl, rfl, rfl⟩, rfl⟩
 · rw [List.pairwise_append]
   refine ⟨h.srt, List.pairwise_singleton _ _, fun a ha b hb => ?_⟩
   rw [List.mem_singleton.1 hb]
   obtain ⟨f', o', k', a1, b1, c1, d1, rfl⟩ := h.all a ha
   have := hlt f' o' k' a1 b1 c1 d1
   unfold ltM mk29
   simp only
   omega
 · rcases d with d | ⟨rfl, rfl, rfl⟩
   · exact List.mem_append.2 (Or.inl (h.has f' o' k' a b c d))
   · exact List.mem_append.2 (Or.inr (List.mem_singleton.2 rfl))
section
variable {n : Nat} {has q : List Int} {t : List (List Int)}
theorem orT {f o : Nat} (hf : f < n) (ho : o < n) (hov : overB has q f) : ∀ (m : Nat), m ≤ n → ∀ (s : List (List Int) × List S29) (D : Nat → Nat → Nat → Prop), Lst n D s.2 → (∀ f' o' k', f' < n → o' < n → k' < n → D f' o' k' → f' < f ∨ (f' = f ∧ o' < o)) →
 Lst n (fun f' o' k' => D f' o' k' ∨ (f' = f ∧ o' = o ∧ k' < m ∧ okM has q f' o' k')) (A.sTto n has q f o s m).2 := by
 intro m
 induction m with
 | zero => intro _ s D h _; exact h.congr (fun f' o' k' _ _ _ => ⟨Or.inl, fun e => e.elim id (fun e => by omega)⟩)
 | succ m ih =>
  intro hm s D h hD
  have h1 := ih (by omega) s D h hD
  rw [A.sTto, A.sT]
  by_cases c : (o : Int) ≠ (f : Int) ∧ (m : Int) ≠ (f : Int) ∧ (m : Int) ≠ (o : Int) ∧ rd has m ≤ rd q m
  · rw [if_pos c]
    have hok : okM has q f o m := ⟨hov, by omega, by omega, by omega, by unfold overB; omega⟩
    refine (h1.snoc f o m hf ho (by omega) (fun f' o' k' a b c' d => ?_)).congr (fun f' o' k' a b c' => ?_)
    · rcases d with d | d
      · have := hD f' o' k' a b c' d; omega
      · omega
    · constructor
      · rintro ((d | d) | ⟨rfl, rfl, rfl⟩)
        · exact Or.inl d
        · exact Or.inr ⟨d.1, d.2.1, by omega, d.2.2.2⟩
        · exact Or.inr ⟨rfl, rfl, by omega, hok⟩
      · rintro (d | ⟨rfl, rfl, d3, d4⟩)
        · exact Or.inl (Or.inl d)
        · by_cases e : k' = m
          · exact Or.inr ⟨rfl, rfl, e⟩
          · exact Or.inl (Or.inr ⟨rfl, rfl, by omega, d4⟩)
  · rw [if_neg c]
    refine h1.congr (fun f' o' k' a b c' => ?_)
    constructor
    · rintro (d | d)
      · exact Or.inl d
      · exact Or.inr ⟨d.1, d.2.1, by omega, d.2.2.2⟩
    · rintro (d | ⟨rfl, rfl, d3, d4⟩)
      · exact Or.inl d
      · by_cases e : k' = m
        · subst e
          obtain ⟨_, b1, b2, b3, b4⟩ := d4
          unfold overB at b4
          exact absurd ⟨by omega, by omega, by omega, by omega⟩ c
        · exact Or.inr ⟨rfl, rfl, by omega, d4⟩
theorem orO {f : Nat} (hf : f < n) (hov : overB has q f) : ∀ (m : Nat), m ≤ n → ∀ (s : List (List Int) × List S29) (D : Nat → Nat → Nat → Prop), Lst n D s.2 → (∀ f' o' k', f' < n → o' < n → k' < n → D f' o' k' → f' < f) →
 Lst n (fun f' o' k' => D f' o' k' ∨ (f' = f ∧ o' < m ∧ okM has q f' o' k')) (A.sOto n has q t f s m).2 := by
 intro m
 induction m with
 | zero => intro _ s D h _; exact h.congr (fun f' o' k' _ _ _ => ⟨Or.inl, fun e => e.elim id (fun e => by omega)⟩)
 | succ m ih =>
  intro hm s D h hD
  have h1 := ih (by omega) s D h hD
  rw [A.sOto, A.sO]
  refine (orT hf (show m < n by omega) hov n (Nat.le_refl _) (A.upd (A.sOto n has q t f s m).1 (A.nodeH f) (A.nodeP n f m) (A.get t f m), (A.sOto n has q t f s m).2) _ h1 (fun f' o' k' a b c d => ?_)).congr (fun f' o' k' a b c => ?_)
  · rcases d with d | d
    · have := hD f' o' k' a b c d; omega
    · omega
  · constructor
    · rintro ((d | d) | ⟨rfl, rfl, d3, d4⟩)
      · exact Or.inl d
      · exact Or.inr ⟨d.1, by omega, d.2.2⟩
      · exact Or.inr ⟨rfl, by omega, d4⟩
    · rintro (d | ⟨rfl, d2, d4⟩)
      · exact Or.inl (Or.inl d)
      · by_cases e : o' = m
        · exact Or.inr ⟨rfl, e, c, d4⟩
        · exact Or.inl (Or.inr ⟨rfl, by omega, d4⟩)
theorem orF : ∀ (m : Nat), m ≤ n → ∀ (s : List (List Int) × Int × List S29), s.2.2 = [] → Lst n (fun f' o' k' => f' < m ∧ okM has q f' o' k') (A.sFto n has q t s m).2.2 := by
 intro m
 induction m with
 | zero =>
  intro _ s hs
  rw [A.sFto, hs]
  exact ⟨fun m hm => (by cases hm), List.Pairwise.nil, fun f o k _ _ _ d => by omega⟩
 | succ m ih =>
  intro hm s hs
  have h1 := ih (by omega) s hs
  rw [A.sFto, A.sF]
  by_cases c : rd has m ≤ rd q m
  · rw [if_pos c]
    have hno : ¬ overB has q m := by unfold overB; omega
    refine h1.congr (fun f' o' k' _ _ _ => ⟨fun e => ⟨by omega, e.2⟩, fun e => ⟨?_, e.2⟩⟩)
    by_cases e2 : f' = m
    · subst e2; exact absurd e.2.1 hno
    · omega
  · rw [if_neg c]
    have hov : overB has q m := by unfold overB; omega
    refine (orO (t := t) (show m < n by omega) hov n (Nat.le_refl _) (A.upd (A.sFto n has q t s m).1 0 (A.nodeH m) (wrap64 (rd has m - rd q m)), (A.sFto n has q t s m).2.2) _ h1 (fun f' o' k' _ _ _ d => d.1)).congr (fun f' o' k' _ ho _ => ?_)
    constructor
    · rintro (d | ⟨rfl, _, d3⟩)
      · exact ⟨by omega, d.2⟩
      · exact ⟨by omega, d3⟩
    · rintro ⟨d1, d2⟩
      by_cases e2 : f' = m
      · exact Or.inr ⟨e2, ho, d2⟩
      · exact Or.inl ⟨by omega, d2⟩
end
theorem order_ok (t : List (List Int)) (q : List Int) : Lst t.length (fun f o k => okM (A.heldT t) q f o k) (A.buildNet t q).2.2 :=
 (orF (n := t.length) (has := A.heldT t) (q := q) (t := t) t.length (Nat.le_refl _) (A.zeroNet t.length, 0, []) rfl).congr (fun f o k hf _ _ => ⟨fun e => e.2, fun e => ⟨hf, e⟩⟩)
def bump (M : Nat → Nat → Nat → Int) (h o0 kk : Nat) (x : Int) (f o k : Nat) : Int := M f o k + (if f = h ∧ o = o0 ∧ k = kk then x else 0)
theorem bump_row (M : Nat → Nat → Nat → Int) {n h o0 kk : Nat} (x : Int) (hk : kk < n) (f o : Nat) : isum (bump M h o0 kk x f o) n = isum (M f o) n + (if f = h ∧ o = o0 then x else 0) := by
 have : isum (bump M h o0 kk x f o) n = isum (fun k => M f o k + (if f = h ∧ o = o0 ∧ k = kk then x else 0)) n := rfl
 rw [this, isum_add]
 congr 1
 by_cases c : f = h ∧ o = o0
 · rw [if_pos c, isum_congr (g := fun k => if k = kk then x else 0) (fun k _ => by simp [c.1, c.2]), isum_pt, if_pos hk]
 · rw [if_neg c, isum_congr (g := fun _ => 0) (fun k _ => by rw [if_neg (fun e => c ⟨e.1, e.2.1⟩)]), isum_zero]
theorem bump_col (M : Nat → Nat → Nat → Int) {n h o0 kk : Nat} (x : Int) (hh : h < n) (o d : Nat) : isum (fun f => bump M h o0 kk x f o d) n = isum (fun f => M f o d) n + (if o = o0 ∧ d = kk then x else 0) := by
 have : isum (fun f => bump M h o0 kk x f o d) n = isum (fun f => M f o d + (if f = h ∧ o = o0 ∧ d = kk then x else 0)) n := rfl
 rw [this, isum_add]
 congr 1
 by_cases c : o = o0 ∧ d = kk
 · rw [if_pos c, isum_congr (g := fun f => if f = h then x else 0) (fun k _ => by simp [c.1, c.2]), isum_pt, if_pos hh]
 · rw [if_neg c, isum_congr (g := fun _ => 0) (fun k _ => by rw [if_neg (fun e => c ⟨e.2.1, e.2.2⟩)]), isum_zero]
theorem bump_take (M : Nat → Nat → Nat → Int) {n h o0 kk : Nat} (x : Int) (hh : h < n) (ho : o0 < n) (d : Nat) : isum (fun f => isum (fun o => bump M h o0 kk x f o d) n) n = isum (fun f => isum (fun o => M f o d) n) n + (if d = kk then x else 0) := by
 rw [isum_swap (fun f o => bump M h o0 kk x f o d), isum_swap (fun f o => M f o d), isum_congr (fun o _ => bump_col M x hh o d), isum_add]
 congr 1
 by_cases c : d = kk
 · rw [if_pos c, isum_congr (g := fun o => if o = o0 then x else 0) (fun o _ => by simp [c]), isum_pt, if_pos ho]
 · rw [if_neg c, isum_congr (g := fun _ => 0) (fun f _ => by rw [if_neg (fun e => c e.2)]), isum_zero]
theorem drop_edge {N : Nat} {M : Int} {g : List (List Int)} (h : Net N M g) (hM : 0 ≤ M) (x y : Nat) (hx : x < N) (hy : y < N) (hxy : x ≠ y) :
 Net N M (A.upd (A.upd g x y 0) y x 0) ∧ (∀ a b : Nat, A.get (A.upd (A.upd g x y 0) y x 0) a b = if (a = x ∧ b = y) ∨ (a = y ∧ b = x) then 0 else A.get g a b) ∧
  (∀ u : Nat, u < N → R N (A.upd (A.upd g x y 0) y x 0) u = R N g u - (if u = x then A.get g x y else 0) - (if u = y then A.get g y x else 0)) := by
 have s1 : A.Sqn N (A.upd g x y 0) := h.sq.upd _ _ _
 have g1 : ∀ a b : Nat, A.get (A.upd g x y 0) a b = if a = x ∧ b = y then 0 else A.get g a b := fun a b => by
  rw [A.get_upd h.sq x y 0 a b (by omega) (by omega) (by omega) (by omega) (by omega) (by omega)]
  simp only [Int.natCast_inj]
 have hg : ∀ a b : Nat, A.get (A.upd (A.upd g x y 0) y x 0) a b = if (a = x ∧ b = y) ∨ (a = y ∧ b = x) then 0 else A.get g a b := fun a b => by
  rw [A.get_upd s1 y x 0 a b (by omega) (by omega) (by omega) (by omega) (by omega) (by omega), g1]
  simp only [Int.natCast_inj]
  by_cases c1 : a = y ∧ b = x
  · rw [if_pos c1, if_pos (Or.inr c1)]
  · rw [if_neg c1]
    by_cases c2 : a = x ∧ b = y
    · rw [if_pos c2, if_pos (Or.inl c2)]
    · rw [if_neg c2, if_neg (fun e => e.elim c2 c1)]
 refine ⟨⟨s1.upd _ _ _, fun a b ha hb => ?_, fun a b ha hb => ?_⟩, hg, fun u hu => ?_⟩
 · rw [hg]
   have := h.low a b ha hb
   split <;> omega
 · rw [hg, hg]
   have h1 := h.sum a b ha hb
   have h2 := h.low a b ha hb
   have h3 := h.low b a hb ha
   split <;> split <;> omega
 · have e : A.get (A.upd g x y 0) y x = A.get g y x := by rw [g1, if_neg (fun e => hxy e.1.symm)]
   rw [R_upd s1 y x hy hx 0 u hu, R_upd h.sq x y hx hy 0 u hu, e]
   split <;> split <;> omega
open Classical in
noncomputable def rest (E : Nat → Nat → Nat → Prop) (B : Nat → Nat → Nat → Int) (f o k : Nat) : Int := if E f o k then A.unlim - B f o k else 0
theorem rest_pos {E : Nat → Nat → Nat → Prop} {B : Nat → Nat → Nat → Int} {f o k : Nat} (h : E f o k) : rest E B f o k = A.unlim - B f o k := if_pos h
theorem rest_neg {E : Nat → Nat → Nat → Prop} {B : Nat → Nat → Nat → Int} {f o k : Nat} (h : ¬ E f o k) : rest E B f o k = 0 := if_neg h
open Classical in
structure Ph (n : Nat) (has q : List Int) (t : List (List Int)) (R0 : Nd → Int) (g : List (List Int)) (E : Nat → Nat → Nat → Prop) (B : Nat → Nat → Nat → Int) (out : List S29) : Prop where
 net : Net (A.netSize n) 2251799813685248 g
 sums : ∀ x y, Vd n x → Vd n y → A.get g (ix n x) (ix n y) + A.get g (ix n y) (ix n x) = if (∃ f o k, E f o k ∧ ((x = nP f o ∧ y = nT k) ∨ (x = nT k ∧ y = nP f o))) then 0 else cap has q t x y + cap has q t y x
 b0 : ∀ f o k, 0 ≤ B f o k
 bz : ∀ f o k, B f o k ≠ 0 → E f o k
 rS : R (A.netSize n) g (ix n nS) = R0 nS
 rH : ∀ f, f < n → R (A.netSize n) g (ix n (nH f)) = R0 (nH f)
 rT : ∀ k, k < n → R (A.netSize n) g (ix n (nT k)) = R0 (nT k) - isum (fun f => isum (fun o => B f o k) n) n
 rP : ∀ f o, f < n → o < n → R (A.netSize n) g (ix n (nP f o)) = R0 (nP f o) - isum (rest E B f o) n
 oa : ∀ m ∈ out, ∃ f o k, f < n ∧ o < n ∧ k < n ∧ E f o k ∧ 0 < B f o k ∧ m = mk29 f o k (B f o k)
 os : out.Pairwise ltM
 og : ∀ f o : Nat, f < n → o < n → isum (B f o) n = (out.map fun m => if m.f0 = (f : Int) ∧ m.f2 = (o : Int) then m.f3 else 0).sum
 ot : ∀ k o : Nat, k < n → o < n → isum (fun f => B f o k) n = (out.map fun m => if m.f1 = (k : Int) ∧ m.f2 = (o : Int) then m.f3 else 0).sum
open Classical in
theorem Ph.step {n : Nat} {has q : List Int} {t : List (List Int)} {R0 : Nd → Int} {g : List (List Int)} {E : Nat → Nat → Nat → Prop} {B : Nat → Nat → Nat → Int} {out : List S29} (h : Ph n has q t R0 g E B out)
 {f o k : Nat} (hf : f < n) (ho : o < n) (hk : k < n) (hok : okM has q f o k) (hE : ¬ E f o k) (hlt : ∀ f' o' k', E f' o' k' → f' < f ∨ (f' = f ∧ (o' < o ∨ (o' = o ∧ k' < k)))) :
 ∃ b, 0 ≤ b ∧ (A.settleStep n (g, out) (mk29 f o k 0)).2 = (if 0 < b then out ++ [mk29 f o k b] else out) ∧
  Ph n has q t R0 (A.settleStep n (g, out) (mk29 f o k 0)).1 (fun f' o' k' => E f' o' k' ∨ (f' = f ∧ o' = o ∧ k' = k)) (bump B f o k b) (A.settleStep n (g, out) (mk29 f o k 0)).2 ∧
  (1125899906842624 ≤ b ∨ ∃ X, Cut (A.netSize n) (A.settleStep n (g, out) (mk29 f o k 0)).1 (ix n (nT k)) (ix n (nP f o)) X) := by
 have hxP := ix_lt (vP hf ho)
 have hxT := ix_lt (vT hk)
 have hne : ix n (nP f o) ≠ ix n (nT k) := fun e => by have := ix_inj (vP hf ho) (vT hk) e; simp [nP, nT] at this
 have eP : A.nodeP n (f : Int) (o : Int) = ((ix n (nP f o) : Nat) : Int) := by rw [ixP]; unfold A.nodeP; push_cast; rfl
 have eT : A.nodeT n (k : Int) = ((ix n (nT k) : Nat) : Int) := by rw [ixT]; unfold A.nodeT; push_cast; rfl
 have hsum : A.get g (ix n (nP f o)) (ix n (nT k)) + A.get g (ix n (nT k)) (ix n (nP f o)) = A.unlim := by
  rw [h.sums _ _ (vP hf ho) (vT hk), if_neg, capPT has q t f o k hok]
  · have : cap has q t (nT k) (nP f o) = 0 := by unfold cap nT nP; simp
    rw [this]; omega
  · rintro ⟨f', o', k', e, ⟨e1, e2⟩ | ⟨e1, e2⟩⟩
    · simp only [nP, nT, Prod.mk.injEq, true_and, and_true] at e1 e2
      obtain ⟨rfl, rfl⟩ := e1
      subst e2
      exact hE e
    · simp [nP, nT] at e1
 have hl1 := h.net.low _ _ hxP hxT
 have hl2 := h.net.low _ _ hxT hxP
 obtain ⟨d1, d2, d3⟩ := drop_edge h.net (by omega) _ _ hxP hxT hne
 have hu : A.unlim = 1125899906842624 := rfl
 obtain ⟨v, v0, v1, v2, v3, v4⟩ := flow (N := A.netSize n) (M := 2251799813685248) (by omega) (ix n (nT k)) (ix n (nP f o)) hxT hxP (Ne.symm hne) A.unlim A.unlim.toNat _ 0 d1 (Int.le_refl _) (by omega) (by omega)
 have eb : wrap64 (A.get g (ix n (nT k)) (ix n (nP f o)) + (A.flowG (ix n (nT k)) (ix n (nP f o)) A.unlim A.unlim.toNat (A.upd (A.upd g (ix n (nP f o)) (ix n (nT k)) 0) (ix n (nT k)) (ix n (nP f o)) 0) 0).2) = A.get g (ix n (nT k)) (ix n (nP f o)) + v := by
  rw [v1, w64 (by omega)]; omega
 obtain ⟨b, hb⟩ : ∃ b, b = A.get g (ix n (nT k)) (ix n (nP f o)) + v := ⟨_, rfl⟩
 have hb0 : 0 ≤ b := by omega
 have e1 : (A.settleStep n (g, out) (mk29 f o k 0)).1 = (A.flowG (ix n (nT k)) (ix n (nP f o)) A.unlim A.unlim.toNat (A.upd (A.upd g (ix n (nP f o)) (ix n (nT k)) 0) (ix n (nT k)) (ix n (nP f o)) 0) 0).1 := by
  unfold A.settleStep mk29
  simp only
  rw [eP, eT]
 have e2 : (A.settleStep n (g, out) (mk29 f o k 0)).2 = (if 0 < b then out ++ [mk29 f o k b] else out) := by
  unfold A.settleStep mk29
  simp only
  rw [eP, eT, eb, ← hb]
 have hBz : B f o k = 0 := by
  by_cases e : B f o k = 0
  · exact e
  · exact absurd (h.bz f o k e) hE
 refine ⟨b, hb0, e2, ?_, ?_⟩
 rotate_left
 · rw [e1]
   rcases v4 with v4 | v4
   · exact Or.inl (by omega)
   · exact Or.inr v4
 rw [e1, e2]
 generalize (A.flowG (ix n (nT k)) (ix n (nP f o)) A.unlim A.unlim.toNat (A.upd (A.upd g (ix n (nP f o)) (ix n (nT k)) 0) (ix n (nT k)) (ix n (nP f o)) 0) 0).1 = g' at v3
 have bkk : bump B f o k b f o k = b := by unfold bump; rw [if_pos ⟨rfl, rfl, rfl⟩, hBz]; omega
 have bne : ∀ f' o' k', ¬ (f' = f ∧ o' = o ∧ k' = k) → bump B f o k b f' o' k' = B f' o' k' := fun f' o' k' c => by unfold bump; rw [if_neg c]; omega
 refine ⟨v3.net, fun x y hx hy => ?_, fun f' o' k' => ?_, fun f' o' k' hne' => ?_, ?_, fun f' a => ?_, fun k' a => ?_, fun f' o' a a' => ?_, fun m hm => ?_, ?_, fun f' o' a a' => ?_, fun k' o' a a' => ?_⟩
 · rw [v3.same _ _ (ix_lt hx) (ix_lt hy), d2, d2]
   by_cases c : (x = nP f o ∧ y = nT k) ∨ (x = nT k ∧ y = nP f o)
   · rw [if_pos (show ∃ f' o' k', (E f' o' k' ∨ (f' = f ∧ o' = o ∧ k' = k)) ∧ ((x = nP f' o' ∧ y = nT k') ∨ (x = nT k' ∧ y = nP f' o')) from ⟨f, o, k, Or.inr ⟨rfl, rfl, rfl⟩, c⟩)]
     rcases c with ⟨rfl, rfl⟩ | ⟨rfl, rfl⟩
     · rw [if_pos (Or.inl ⟨rfl, rfl⟩), if_pos (Or.inr ⟨rfl, rfl⟩)]; rfl
     · rw [if_pos (Or.inr ⟨rfl, rfl⟩), if_pos (Or.inl ⟨rfl, rfl⟩)]; rfl
   · have c' : ∀ x y : Nd, Vd n x → Vd n y → ¬ ((x = nP f o ∧ y = nT k) ∨ (x = nT k ∧ y = nP f o)) → ¬ ((ix n x = ix n (nP f o) ∧ ix n y = ix n (nT k)) ∨ (ix n x = ix n (nT k) ∧ ix n y = ix n (nP f o))) := fun x y hx hy c e => by
      rcases e with ⟨e1, e2⟩ | ⟨e1, e2⟩
      · exact c (Or.inl ⟨ix_inj hx (vP hf ho) e1, ix_inj hy (vT hk) e2⟩)
      · exact c (Or.inr ⟨ix_inj hx (vT hk) e1, ix_inj hy (vP hf ho) e2⟩)
     rw [if_neg (c' x y hx hy c), if_neg (c' y x hy hx (fun e => c (e.elim (fun e => Or.inr ⟨e.2, e.1⟩) (fun e => Or.inl ⟨e.2, e.1⟩)))), h.sums x y hx hy]
     by_cases d : ∃ f o k, E f o k ∧ ((x = nP f o ∧ y = nT k) ∨ (x = nT k ∧ y = nP f o))
     · obtain ⟨f', o', k', e, e'⟩ := d
       rw [if_pos ⟨f', o', k', e, e'⟩, if_pos ⟨f', o', k', Or.inl e, e'⟩]
     · rw [if_neg d, if_neg]
       rintro ⟨f', o', k', e | ⟨rfl, rfl, rfl⟩, e'⟩
       · exact d ⟨f', o', k', e, e'⟩
       · exact c e'
 · have := h.b0 f' o' k'
   unfold bump
   split <;> omega
 · by_cases c : f' = f ∧ o' = o ∧ k' = k
   · exact Or.inr c
   · exact Or.inl (h.bz f' o' k' (by rw [← bne f' o' k' c]; exact hne'))
 · rw [v3.row _ (ix_lt (vS n)), d3 _ (ix_lt (vS n)), if_neg (fun e => by have := ix_inj (vS n) (vP hf ho) e; simp [nS, nP] at this), if_neg (fun e => by have := ix_inj (vS n) (vT hk) e; simp [nS, nT] at this), if_neg (fun e => by have := ix_inj (vS n) (vT hk) e; simp [nS, nT] at this), if_neg (fun e => by have := ix_inj (vS n) (vP hf ho) e; simp [nS, nP] at this), h.rS]; omega
 · rw [v3.row _ (ix_lt (vH a)), d3 _ (ix_lt (vH a)), if_neg (fun e => by have := ix_inj (vH a) (vP hf ho) e; simp [nH, nP] at this), if_neg (fun e => by have := ix_inj (vH a) (vT hk) e; simp [nH, nT] at this), if_neg (fun e => by have := ix_inj (vH a) (vT hk) e; simp [nH, nT] at this), if_neg (fun e => by have := ix_inj (vH a) (vP hf ho) e; simp [nH, nP] at this), h.rH f' a]; omega
 · rw [v3.row _ (ix_lt (vT a)), d3 _ (ix_lt (vT a)), if_neg (show ¬ ix n (nT k') = ix n (nP f o) from fun e => by have := ix_inj (vT a) (vP hf ho) e; simp [nT, nP] at this), if_neg (show ¬ ix n (nT k') = ix n (nP f o) from fun e => by have := ix_inj (vT a) (vP hf ho) e; simp [nT, nP] at this), h.rT k' a, bump_take B b hf ho k']
   by_cases c : k' = k
   · subst c
     rw [if_pos rfl, if_pos rfl, if_pos rfl]; omega
   · have : ¬ ix n (nT k') = ix n (nT k) := fun e => by
      have := ix_inj (vT a) (vT hk) e
      simp only [nT, Prod.mk.injEq, true_and, and_true] at this
      exact c this
     rw [if_neg this, if_neg this, if_neg c]; omega
 · rw [v3.row _ (ix_lt (vP a a')), d3 _ (ix_lt (vP a a')), if_neg (show ¬ ix n (nP f' o') = ix n (nT k) from fun e => by have := ix_inj (vP a a') (vT hk) e; simp [nT, nP] at this), if_neg (show ¬ ix n (nP f' o') = ix n (nT k) from fun e => by have := ix_inj (vP a a') (vT hk) e; simp [nT, nP] at this), h.rP f' o' a a']
   by_cases c : f' = f ∧ o' = o
   · obtain ⟨rfl, rfl⟩ := c
     have es : isum (rest (fun f'' o'' k' => E f'' o'' k' ∨ (f'' = f' ∧ o'' = o' ∧ k' = k)) (bump B f' o' k b) f' o') n = isum (fun k' => rest E B f' o' k' + (if k' = k then A.unlim - b else 0)) n := by
      refine isum_congr (fun k' _ => ?_)
      by_cases e : k' = k
      · subst e
        rw [rest_pos (Or.inr ⟨rfl, rfl, rfl⟩), rest_neg hE, if_pos rfl, bkk]; omega
      · rw [if_neg e]
        by_cases z : E f' o' k'
        · rw [rest_pos (Or.inl z), rest_pos z, bne f' o' k' (fun z => e z.2.2)]; omega
        · rw [rest_neg (fun y => y.elim z (fun y => e y.2.2)), rest_neg z]; rfl
     rw [es, isum_add, isum_pt, if_pos hk, if_pos rfl, if_pos rfl]
     omega
   · have : ¬ ix n (nP f' o') = ix n (nP f o) := fun e => by
      have := ix_inj (vP a a') (vP hf ho) e
      simp only [nP, Prod.mk.injEq, true_and] at this
      exact c this
     rw [if_neg this, if_neg this]
     have es : isum (rest (fun f'' o'' k' => E f'' o'' k' ∨ (f'' = f ∧ o'' = o ∧ k' = k)) (bump B f o k b) f' o') n = isum (rest E B f' o') n := by
      refine isum_congr (fun k' _ => ?_)
      by_cases z : E f' o' k'
      · rw [rest_pos (Or.inl z), rest_pos z, bne f' o' k' (fun z => c ⟨z.1, z.2.1⟩)]
      · rw [rest_neg (fun y => y.elim z (fun y => c ⟨y.1, y.2.1⟩)), rest_neg z]
     rw [es]; omega
 · have old : ∀ m ∈ out, ∃ f' o' k', f' < n ∧ o' < n ∧ k' < n ∧ (E f' o' k' ∨ (f' = f ∧ o' = o ∧ k' = k)) ∧ 0 < bump B f o k b f' o' k' ∧ m = mk29 f' o' k' (bump B f o k b f' o' k') := fun m hm => by
    obtain ⟨f', o', k', a1, a2, a3, a4, a5, a6⟩ := h.oa m hm
    have : ¬ (f' = f ∧ o' = o ∧ k' = k) := fun z => hE (by rw [← z.1, ← z.2.1, ← z.2.2]; exact a4)
    exact ⟨f', o', k', a1, a2, a3, Or.inl a4, by rw [bne f' o' k' this]; exact a5, by rw [bne f' o' k' this]; exact a6⟩
   by_cases c : 0 < b
   · rw [if_pos c] at hm
     rcases List.mem_append.1 hm with hm | hm
     · exact old m hm
     · rw [List.mem_singleton.1 hm]
       exact ⟨f, o, k, hf, ho, hk, Or.inr ⟨rfl, rfl, rfl⟩, by rw [bkk]; exact c, by rw [bkk]⟩
   · rw [if_neg c] at hm
     exact old m hm
 · by_cases c : 0 < b
   · rw [if_pos c, List.pairwise_append]
     refine ⟨h.os, List.pairwise_singleton _ _, fun a ha b' hb' => ?_⟩
     rw [List.mem_singleton.1 hb']
     obtain ⟨f', o', k', a1, a2, a3, a4, a5, rfl⟩ := h.oa a ha
     have := hlt f' o' k' a4
     unfold ltM mk29
     simp only
     omega
   · rw [if_neg c]; exact h.os
 · rw [bump_row B b hk f' o', h.og f' o' a a']
   by_cases c : 0 < b
   · rw [if_pos c, List.map_append, List.sum_append]
     simp only [List.map_cons, List.map_nil, List.sum_cons, List.sum_nil, mk29, Int.natCast_inj]
     by_cases e : f' = f ∧ o' = o
     · rw [if_pos e, if_pos ⟨e.1.symm, e.2.symm⟩]; omega
     · rw [if_neg e, if_neg (fun z => e ⟨z.1.symm, z.2.symm⟩)]; omega
   · rw [if_neg c]
     have : b = 0 := by omega
     rw [this]; split <;> omega
 · rw [bump_col B b hf o' k', h.ot k' o' a a']
   by_cases c : 0 < b
   · rw [if_pos c, List.map_append, List.sum_append]
     simp only [List.map_cons, List.map_nil, List.sum_cons, List.sum_nil, mk29, Int.natCast_inj]
     by_cases e : o' = o ∧ k' = k
     · rw [if_pos e, if_pos ⟨e.2.symm, e.1.symm⟩]; omega
     · rw [if_neg e, if_neg (fun z => e ⟨z.2.symm, z.1.symm⟩)]; omega
   · rw [if_neg c]
     have : b = 0 := by omega
     rw [this]; split <;> omega
theorem sumN_zero (n : Nat) : sumN n (fun _ => 0) = 0 := by
 rw [sumN_def]
 simp only [isum_zero]
 rfl
theorem sumN_isum (n : Nat) (c : Nd → Nat → Int) : ∀ m, sumN n (fun x => isum (c x) m) = isum (fun f => sumN n (fun x => c x f)) m := by
 intro m
 induction m with
 | zero => exact sumN_zero n
 | succ m ih =>
  have : sumN n (fun x => isum (c x) (m + 1)) = sumN n (fun x => isum (c x) m + c x m) := rfl
  rw [this, sumN_add, ih, isum]
theorem sumN_swap (n : Nat) (φ : Nd → Nd → Int) : sumN n (fun x => sumN n (φ x)) = sumN n (fun y => sumN n (fun x => φ x y)) := by
 have e1 : sumN n (fun x => sumN n (φ x)) = sumN n (fun x => φ x nS + φ x nE + isum (fun f => φ x (nH f)) n + isum (fun k => φ x (nT k)) n + isum (fun f => isum (fun o => φ x (nP f o)) n) n) := rfl
 rw [e1, sumN_add, sumN_add, sumN_add, sumN_add, sumN_isum, sumN_isum, sumN_isum, isum_congr (fun f _ => sumN_isum n (fun x o => φ x (nP f o)) n)]
 rfl
open Classical in
theorem skew_cut (n : Nat) (D : Nd → Nd → Int) (hs : ∀ x y, Vd n x → Vd n y → D x y + D y x = 0) (X : Nd → Prop) : sumN n (fun x => if X x then sumN n (D x) else 0) = sumN n (fun x => sumN n (fun y => if X x ∧ ¬ X y then D x y else 0)) := by
 have e1 : ∀ x, Vd n x → (if X x then sumN n (D x) else 0) = sumN n (fun y => if X x ∧ ¬ X y then D x y else 0) + sumN n (fun y => if X x ∧ X y then D x y else 0) := fun x _ => by
  rw [← sumN_add]
  by_cases c : X x
  · rw [if_pos c]
    refine sumN_congr (fun y _ => ?_)
    by_cases d : X y
    · rw [if_neg (fun e => e.2 d), if_pos ⟨c, d⟩]; omega
    · rw [if_pos ⟨c, d⟩, if_neg (fun e => d e.2)]; omega
  · rw [if_neg c, sumN_congr (ψ := fun _ => 0) (fun y _ => by rw [if_neg (fun e => c e.1), if_neg (fun e => c e.1)]; rfl), sumN_zero]
 rw [sumN_congr e1, sumN_add]
 have sw := sumN_swap n (fun x y => if X x ∧ X y then D x y else 0)
 have ng : sumN n (fun y => sumN n (fun x => if X x ∧ X y then D x y else 0)) = sumN n (fun x => 0 - sumN n (fun y => if X x ∧ X y then D x y else 0)) := by
  refine sumN_congr (fun x hx => ?_)
  have : sumN n (fun y => (0 : Int) - (if X x ∧ X y then D x y else 0)) = sumN n (fun _ => 0) - sumN n (fun y => if X x ∧ X y then D x y else 0) := sumN_sub n (fun _ => 0) _
  rw [sumN_zero] at this
  rw [← this]
  refine sumN_congr (fun y hy => ?_)
  have := hs x y hx hy
  by_cases c : X x ∧ X y
  · rw [if_pos c, if_pos ⟨c.2, c.1⟩]; omega
  · rw [if_neg c, if_neg (fun e => c ⟨e.2, e.1⟩)]; rfl
 have : sumN n (fun x => (0 : Int) - sumN n (fun y => if X x ∧ X y then D x y else 0)) = sumN n (fun _ => 0) - sumN n (fun x => sumN n (fun y => if X x ∧ X y then D x y else 0)) := sumN_sub n (fun _ => 0) _
 rw [ng, this, sumN_zero] at sw
 omega
structure Feas (n : Nat) (has q : List Int) (t : List (List Int)) (M : Nat → Nat → Nat → Int) : Prop where
 m0 : ∀ f o k, 0 ≤ M f o k
 mz : ∀ f o k, M f o k ≠ 0 → f < n ∧ o < n ∧ k < n ∧ okM has q f o k
 mt : ∀ f o : Nat, f < n → o < n → isum (M f o) n ≤ A.get t f o
 mg : ∀ f : Nat, f < n → overB has q f → isum (fun o => isum (M f o) n) n = rd has f - rd q f
 mtk : ∀ k : Nat, k < n → ¬ overB has q k → isum (fun f => isum (fun o => M f o k) n) n ≤ rd q k - rd has k
def fl (n : Nat) (M : Nat → Nat → Nat → Int) (x y : Nd) : Int :=
 if x.1 = 0 ∧ y.1 = 2 then isum (fun o => isum (M y.2.1 o) n) n
 else if x.1 = 2 ∧ y.1 = 4 ∧ x.2.1 = y.2.1 then isum (M x.2.1 y.2.2) n
 else if x.1 = 4 ∧ y.1 = 3 then M x.2.1 x.2.2 y.2.1
 else if x.1 = 3 ∧ y.1 = 1 then isum (fun f => isum (fun o => M f o x.2.1) n) n
 else 0
section
variable {n : Nat} {has q : List Int} {t : List (List Int)} {M : Nat → Nat → Nat → Int}
theorem flSH (f : Nat) : fl n M nS (nH f) = isum (fun o => isum (M f o) n) n := by unfold fl nS nH; simp
theorem flHP (f o : Nat) : fl n M (nH f) (nP f o) = isum (M f o) n := by unfold fl nH nP; simp
theorem flPT (f o k : Nat) : fl n M (nP f o) (nT k) = M f o k := by unfold fl nP nT; simp
theorem flTE (k : Nat) : fl n M (nT k) nE = isum (fun f => isum (fun o => M f o k) n) n := by unfold fl nT nE; simp
theorem capSHn (f : Nat) (h : ¬ overB has q f) : cap has q t nS (nH f) = 0 := by unfold cap nS nH; rw [if_pos rfl, if_neg (fun e => h e.2)]
theorem Feas.g0 (h : Feas n has q t M) (f : Nat) (ho : ¬ overB has q f) (o : Nat) : isum (M f o) n = 0 := by
 rw [isum_congr (g := fun _ => 0) (fun k _ => by
   by_cases e : M f o k = 0
   · exact e
   · exact absurd (h.mz f o k e).2.2.2.1 ho), isum_zero]
theorem Feas.gg0 (h : Feas n has q t M) (f : Nat) (ho : ¬ overB has q f) : isum (fun o => isum (M f o) n) n = 0 := by
 rw [isum_congr (g := fun _ => 0) (fun o _ => h.g0 f ho o), isum_zero]
theorem Feas.k0 (h : Feas n has q t M) (k : Nat) (ho : overB has q k) : isum (fun f => isum (fun o => M f o k) n) n = 0 := by
 rw [isum_congr (g := fun _ => 0) (fun f _ => by
   rw [isum_congr (g := fun _ => 0) (fun o _ => by
     by_cases e : M f o k = 0
     · exact e
     · exact absurd ho (h.mz f o k e).2.2.2.2.2.2.2), isum_zero]), isum_zero]
theorem fl_range (h : Feas n has q t M) (hu : ∀ f o k, M f o k ≤ A.unlim) {x y : Nd} (hx : Vd n x) (hy : Vd n y) (hc : 0 ≤ cap has q t x y) : 0 ≤ fl n M x y ∧ fl n M x y ≤ cap has q t x y := by
 have nn1 : ∀ f o, 0 ≤ isum (M f o) n := fun f o => isum_nonneg (fun k _ => h.m0 f o k)
 have nn2 : ∀ f, 0 ≤ isum (fun o => isum (M f o) n) n := fun f => isum_nonneg (fun o _ => nn1 f o)
 have nn3 : ∀ k, 0 ≤ isum (fun f => isum (fun o => M f o k) n) n := fun k => isum_nonneg (fun f _ => isum_nonneg (fun o _ => h.m0 f o k))
 rcases hx with rfl | rfl | ⟨f, hf, rfl⟩ | ⟨k, hk, rfl⟩ | ⟨f, o, hf, ho, rfl⟩ <;>
 rcases hy with rfl | rfl | ⟨f', hf', rfl⟩ | ⟨k', hk', rfl⟩ | ⟨f', o', hf', ho', rfl⟩
 case inl.inr.inr.inl =>
  rw [flSH]
  refine ⟨nn2 f', ?_⟩
  by_cases c : overB has q f'
  · rw [capSH has q t f' c, h.mg f' hf' c]; exact Int.le_refl _
  · rw [h.gg0 f' c]; exact hc
 case inr.inr.inl.inr.inr.inr.inr =>
  by_cases e : f = f'
  · subst e
    rw [flHP]
    refine ⟨nn1 f o', ?_⟩
    by_cases c : overB has q f
    · rw [capHP has q t f o' c]; exact h.mt f o' hf ho'
    · rw [h.g0 f c o']; exact hc
  · have : fl n M (nH f) (nP f' o') = 0 := by unfold fl nH nP; simp [e]
    rw [this]; exact ⟨Int.le_refl _, hc⟩
 case inr.inr.inr.inl.inr.inl =>
  rw [flTE]
  refine ⟨nn3 k, ?_⟩
  by_cases c : overB has q k
  · rw [h.k0 k c]; exact hc
  · rw [capTE has q t k c]; exact h.mtk k hk c
 case inr.inr.inr.inr.inr.inr.inr.inl =>
  rw [flPT]
  refine ⟨h.m0 f o k', ?_⟩
  by_cases c : okM has q f o k'
  · rw [capPT has q t f o k' c]; exact hu f o k'
  · have : M f o k' = 0 := by
     by_cases e : M f o k' = 0
     · exact e
     · exact absurd (h.mz f o k' e).2.2.2 c
    rw [this]; exact hc
 all_goals
  (first
  | (have e : fl n M _ _ = 0 := by (unfold fl; simp [nS, nE, nH, nT, nP]))
  | skip)
  exact ⟨by rw [show fl n M _ _ = 0 from by (unfold fl; simp [nS, nE, nH, nT, nP])]; exact Int.le_refl _, by rw [show fl n M _ _ = 0 from by (unfold fl; simp [nS, nE, nH, nT, nP])]; exact hc⟩
end
theorem isum_nil {F : Nat → Int} {m : Nat} (h : ∀ i, i < m → F i = 0) : isum F m = 0 := by
 rw [isum_congr (g := fun _ => 0) h, isum_zero]
theorem isum_single {F : Nat → Int} {m p : Nat} (hp : p < m) (h : ∀ i, i < m → i ≠ p → F i = 0) : isum F m = F p := by
 rw [isum_congr (g := fun i => if i = p then F p else 0) (fun i hi => by
   by_cases e : i = p
   · rw [if_pos e, e]
   · rw [if_neg e]; exact h i hi e), isum_pt, if_pos hp]
section
variable {n : Nat} {has q : List Int} {t : List (List Int)} {M : Nat → Nat → Nat → Int} {E : Nat → Nat → Nat → Prop}
def gone (E : Nat → Nat → Nat → Prop) (x y : Nd) : Prop := ∃ f o k, E f o k ∧ ((x = nP f o ∧ y = nT k) ∨ (x = nT k ∧ y = nP f o))
theorem gone_symm {x y : Nd} (h : gone E x y) : gone E y x := by
 obtain ⟨f, o, k, e, h | h⟩ := h
 · exact ⟨f, o, k, e, Or.inr ⟨h.2, h.1⟩⟩
 · exact ⟨f, o, k, e, Or.inl ⟨h.2, h.1⟩⟩
theorem gone_PT (f o k : Nat) : gone E (nP f o) (nT k) ↔ E f o k := by
 constructor
 · rintro ⟨f', o', k', e, ⟨e1, e2⟩ | ⟨e1, e2⟩⟩
   · simp only [nP, nT, Prod.mk.injEq, true_and, and_true] at e1 e2
     obtain ⟨rfl, rfl⟩ := e1
     subst e2
     exact e
   · simp [nP, nT] at e1
 · exact fun e => ⟨f, o, k, e, Or.inl ⟨rfl, rfl⟩⟩
theorem gone_no {x y : Nd} (h : ¬ ((x.1 = 4 ∧ y.1 = 3) ∨ (x.1 = 3 ∧ y.1 = 4))) : ¬ gone E x y := by
 rintro ⟨f, o, k, _, ⟨rfl, rfl⟩ | ⟨rfl, rfl⟩⟩
 · exact h (Or.inl ⟨rfl, rfl⟩)
 · exact h (Or.inr ⟨rfl, rfl⟩)
variable (n has q t M E) in
open Classical in
noncomputable def rr (x y : Nd) : Int := if gone E x y then 0 else cap has q t x y - fl n M x y + fl n M y x
theorem rr_gone {x y : Nd} (h : gone E x y) : rr n has q t M E x y = 0 := if_pos h
theorem rr_not {x y : Nd} (h : ¬ gone E x y) : rr n has q t M E x y = cap has q t x y - fl n M x y + fl n M y x := if_neg h
theorem rr_S (h : Feas n has q t M) : sumN n (rr n has q t M E nS) = 0 := by
 rw [sumN_def, rr_not (gone_no (by simp [nS])), rr_not (gone_no (by simp [nS])), isum_nil (fun f hf => by
   rw [rr_not (gone_no (by simp [nS, nH])), flSH, show fl n M (nH f) nS = 0 from by unfold fl; simp [nS, nH]]
   by_cases c : overB has q f
   · rw [capSH has q t f c, h.mg f hf c]; omega
   · rw [capSHn f c, h.gg0 f c]; rfl), isum_nil (fun k hk => by
   rw [rr_not (gone_no (by simp [nS, nT])), show cap has q t nS (nT k) = 0 from by unfold cap; simp [nS, nT], show fl n M nS (nT k) = 0 from by unfold fl; simp [nS, nT], show fl n M (nT k) nS = 0 from by unfold fl; simp [nS, nT]]
   rfl), isum_nil (fun f hf => isum_nil (fun o ho => by
   rw [rr_not (gone_no (by simp [nS, nP])), show cap has q t nS (nP f o) = 0 from by unfold cap; simp [nS, nP], show fl n M nS (nP f o) = 0 from by unfold fl; simp [nS, nP], show fl n M (nP f o) nS = 0 from by unfold fl; simp [nS, nP]]
   rfl))]
 rw [show cap has q t nS nS = 0 from by unfold cap; simp [nS], show fl n M nS nS = 0 from by unfold fl; simp [nS], show cap has q t nS nE = 0 from by unfold cap; simp [nS, nE], show fl n M nS nE = 0 from by unfold fl; simp [nS, nE], show fl n M nE nS = 0 from by unfold fl; simp [nS, nE]]
 rfl
theorem rr_H (f : Nat) (hf : f < n) : sumN n (rr n has q t M E (nH f)) = isum (fun o => cap has q t (nH f) (nP f o)) n := by
 have hP : isum (fun f' => isum (fun o => rr n has q t M E (nH f) (nP f' o)) n) n = isum (fun o => cap has q t (nH f) (nP f o)) n - isum (fun o => isum (M f o) n) n := by
  rw [isum_single (F := fun f' => isum (fun o => rr n has q t M E (nH f) (nP f' o)) n) hf (fun f' hf' hne => isum_nil (fun o ho => by
    have hne' : ¬ f = f' := fun e => hne e.symm
    rw [rr_not (gone_no (by simp [nH, nP])), show cap has q t (nH f) (nP f' o) = 0 from by unfold cap; simp [nH, nP, hne'], show fl n M (nH f) (nP f' o) = 0 from by unfold fl; simp [nH, nP, hne'], show fl n M (nP f' o) (nH f) = 0 from by unfold fl; simp [nH, nP]]
    rfl)), ← isum_sub]
  refine isum_congr (fun o ho => ?_)
  rw [rr_not (gone_no (by simp [nH, nP])), flHP, show fl n M (nP f o) (nH f) = 0 from by unfold fl; simp [nH, nP]]
  omega
 have z1 : isum (fun f' => rr n has q t M E (nH f) (nH f')) n = 0 := isum_nil (fun f' hf' => by
   rw [rr_not (gone_no (by simp [nH])), show cap has q t (nH f) (nH f') = 0 from by unfold cap; simp [nH], show fl n M (nH f) (nH f') = 0 from by unfold fl; simp [nH], show fl n M (nH f') (nH f) = 0 from by unfold fl; simp [nH]]
   rfl)
 have z2 : isum (fun k => rr n has q t M E (nH f) (nT k)) n = 0 := isum_nil (fun k hk => by
   rw [rr_not (gone_no (by simp [nH, nT])), show cap has q t (nH f) (nT k) = 0 from by unfold cap; simp [nH, nT], show fl n M (nH f) (nT k) = 0 from by unfold fl; simp [nH, nT], show fl n M (nT k) (nH f) = 0 from by unfold fl; simp [nH, nT]]
   rfl)
 rw [sumN_def, hP, z1, z2, rr_not (gone_no (by simp [nH, nS])), rr_not (gone_no (by simp [nH, nE])), flSH]
 rw [show cap has q t (nH f) nS = 0 from by unfold cap; simp [nH, nS], show fl n M (nH f) nS = 0 from by unfold fl; simp [nH, nS], show cap has q t (nH f) nE = 0 from by unfold cap; simp [nH, nE], show fl n M (nH f) nE = 0 from by unfold fl; simp [nH, nE], show fl n M nE (nH f) = 0 from by unfold fl; simp [nH, nE]]
 omega
open Classical in
theorem rr_T (k : Nat) (hk : k < n) : sumN n (rr n has q t M E (nT k)) = cap has q t (nT k) nE - isum (fun f => isum (fun o => if E f o k then M f o k else 0) n) n := by
 have hP : isum (fun f => isum (fun o => rr n has q t M E (nT k) (nP f o)) n) n = isum (fun f => isum (fun o => M f o k) n) n - isum (fun f => isum (fun o => if E f o k then M f o k else 0) n) n := by
  rw [← isum_sub]
  refine isum_congr (fun f hf => ?_)
  rw [← isum_sub]
  refine isum_congr (fun o ho => ?_)
  by_cases c : E f o k
  · rw [rr_gone (gone_symm ((gone_PT f o k).2 c)), if_pos c]; omega
  · rw [rr_not (fun e => c ((gone_PT f o k).1 (gone_symm e))), if_neg c, flPT, show cap has q t (nT k) (nP f o) = 0 from by unfold cap; simp [nT, nP], show fl n M (nT k) (nP f o) = 0 from by unfold fl; simp [nT, nP]]
    omega
 have z1 : isum (fun f' => rr n has q t M E (nT k) (nH f')) n = 0 := isum_nil (fun f' hf' => by
   rw [rr_not (gone_no (by simp [nT, nH])), show cap has q t (nT k) (nH f') = 0 from by unfold cap; simp [nT, nH], show fl n M (nT k) (nH f') = 0 from by unfold fl; simp [nT, nH], show fl n M (nH f') (nT k) = 0 from by unfold fl; simp [nT, nH]]
   rfl)
 have z2 : isum (fun k' => rr n has q t M E (nT k) (nT k')) n = 0 := isum_nil (fun k' hk' => by
   rw [rr_not (gone_no (by simp [nT])), show cap has q t (nT k) (nT k') = 0 from by unfold cap; simp [nT], show fl n M (nT k) (nT k') = 0 from by unfold fl; simp [nT], show fl n M (nT k') (nT k) = 0 from by unfold fl; simp [nT]]
   rfl)
 rw [sumN_def, hP, z1, z2, rr_not (gone_no (by simp [nT, nS])), rr_not (gone_no (by simp [nT, nE])), flTE]
 rw [show cap has q t (nT k) nS = 0 from by unfold cap; simp [nT, nS], show fl n M (nT k) nS = 0 from by unfold fl; simp [nT, nS], show fl n M nS (nT k) = 0 from by unfold fl; simp [nT, nS], show fl n M nE (nT k) = 0 from by unfold fl; simp [nT, nE]]
 omega
open Classical in
theorem rr_P (f o : Nat) (hf : f < n) (ho : o < n) : sumN n (rr n has q t M E (nP f o)) = isum (fun k => cap has q t (nP f o) (nT k)) n + isum (fun k => if E f o k then M f o k - cap has q t (nP f o) (nT k) else 0) n := by
 have hT : isum (fun k => rr n has q t M E (nP f o) (nT k)) n = isum (fun k => cap has q t (nP f o) (nT k)) n + isum (fun k => if E f o k then M f o k - cap has q t (nP f o) (nT k) else 0) n - isum (M f o) n := by
  rw [← isum_add, ← isum_sub]
  refine isum_congr (fun k hk => ?_)
  by_cases c : E f o k
  · rw [rr_gone ((gone_PT f o k).2 c), if_pos c]; omega
  · rw [rr_not (fun e => c ((gone_PT f o k).1 e)), if_neg c, flPT, show fl n M (nT k) (nP f o) = 0 from by unfold fl; simp [nT, nP]]
    omega
 have hH : isum (fun f' => rr n has q t M E (nP f o) (nH f')) n = isum (M f o) n := by
  rw [isum_single (F := fun f' => rr n has q t M E (nP f o) (nH f')) hf (fun f' hf' hne => by
    rw [rr_not (gone_no (by simp [nP, nH])), show cap has q t (nP f o) (nH f') = 0 from by unfold cap; simp [nP, nH], show fl n M (nP f o) (nH f') = 0 from by unfold fl; simp [nP, nH], show fl n M (nH f') (nP f o) = 0 from by unfold fl; simp [nP, nH, hne]]
    rfl), rr_not (gone_no (by simp [nP, nH])), flHP, show cap has q t (nP f o) (nH f) = 0 from by unfold cap; simp [nP, nH], show fl n M (nP f o) (nH f) = 0 from by unfold fl; simp [nP, nH]]
  omega
 rw [sumN_def, hT, hH, rr_not (gone_no (by simp [nP, nS])), rr_not (gone_no (by simp [nP, nE])), isum_nil (fun f' hf' => isum_nil (fun o' ho' => by
   rw [rr_not (gone_no (by simp [nP])), show cap has q t (nP f o) (nP f' o') = 0 from by unfold cap; simp [nP], show fl n M (nP f o) (nP f' o') = 0 from by unfold fl; simp [nP], show fl n M (nP f' o') (nP f o) = 0 from by unfold fl; simp [nP]]
   rfl))]
 rw [show cap has q t (nP f o) nS = 0 from by unfold cap; simp [nP, nS], show fl n M (nP f o) nS = 0 from by unfold fl; simp [nP, nS], show fl n M nS (nP f o) = 0 from by unfold fl; simp [nP, nS], show cap has q t (nP f o) nE = 0 from by unfold cap; simp [nP, nE], show fl n M (nP f o) nE = 0 from by unfold fl; simp [nP, nE], show fl n M nE (nP f o) = 0 from by unfold fl; simp [nP, nE]]
 omega
open Classical in
theorem max_of_cut {R0 : Nd → Int} {g : List (List Int)} {B : Nat → Nat → Nat → Int} {out : List S29} (h : Ph n has q t R0 g E B out) (hE : ∀ f o k, E f o k → f < n ∧ o < n ∧ k < n ∧ okM has q f o k)
 (hRS : R0 nS = 0) (hRH : ∀ f, f < n → R0 (nH f) = isum (fun o => cap has q t (nH f) (nP f o)) n) (hRT : ∀ k, k < n → R0 (nT k) = cap has q t (nT k) nE) (hRP : ∀ f o, f < n → o < n → R0 (nP f o) = isum (fun k => cap has q t (nP f o) (nT k)) n)
 (hcap : ∀ x y, Vd n x → Vd n y → 0 ≤ cap has q t x y) (hM : Feas n has q t M) (hu : ∀ f o k, M f o k ≤ A.unlim) (fe oe ke : Nat) (he : E fe oe ke) (heq : ∀ f o k, E f o k → ¬ (f = fe ∧ o = oe ∧ k = ke) → M f o k = B f o k)
 {X : Nat → Prop} (hX : Cut (A.netSize n) g (ix n (nT ke)) (ix n (nP fe oe)) X) : M fe oe ke ≤ B fe oe ke := by
 obtain ⟨hf, ho, hk, _⟩ := hE _ _ _ he
 obtain ⟨xt, xp, hz⟩ := hX
 obtain ⟨D, hD⟩ : ∃ D : Nd → Nd → Int, D = fun x y => A.get g (ix n x) (ix n y) - rr n has q t M E x y := ⟨_, rfl⟩
 have hskew : ∀ x y, Vd n x → Vd n y → D x y + D y x = 0 := fun x y hx hy => by
  have hs := h.sums x y hx hy
  rw [hD]
  simp only
  by_cases c : gone E x y
  · rw [rr_gone c, rr_gone (gone_symm c)]
    rw [if_pos (show ∃ f o k, E f o k ∧ ((x = nP f o ∧ y = nT k) ∨ (x = nT k ∧ y = nP f o)) from c)] at hs
    omega
  · rw [rr_not c, rr_not (fun e => c (gone_symm e))]
    rw [if_neg (show ¬ ∃ f o k, E f o k ∧ ((x = nP f o ∧ y = nT k) ∨ (x = nT k ∧ y = nP f o)) from c)] at hs
    omega
 have hup : ∀ x y, Vd n x → Vd n y → D x y ≤ A.get g (ix n x) (ix n y) := fun x y hx hy => by
  rw [hD]
  simp only
  by_cases c : gone E x y
  · rw [rr_gone c]; omega
  · have h1 := fl_range hM hu hx hy (hcap x y hx hy)
    have h2 := fl_range hM hu hy hx (hcap y x hy hx)
    rw [rr_not c]; omega
 have hrow : ∀ x, Vd n x → sumN n (D x) = R (A.netSize n) g (ix n x) - sumN n (rr n has q t M E x) := fun x hx => by
  have e1 : R (A.netSize n) g (ix n x) = sumN n (fun y => A.get g (ix n x) (ix n y)) := by unfold R; rw [isum_nodes]
  rw [e1, ← sumN_sub, hD]
 have rS : sumN n (D nS) = 0 := by rw [hrow _ (vS n), rr_S hM, h.rS, hRS]; rfl
 have rH : ∀ f, f < n → sumN n (D (nH f)) = 0 := fun f hf => by rw [hrow _ (vH hf), rr_H f hf, h.rH f hf, hRH f hf]; omega
 have rT : ∀ k, k < n → sumN n (D (nT k)) = if k = ke then M fe oe ke - B fe oe ke else 0 := fun k hk' => by
  rw [hrow _ (vT hk'), rr_T k hk', h.rT k hk', hRT k hk']
  have e1 : isum (fun f => isum (fun o => if E f o k then M f o k else 0) n) n - isum (fun f => isum (fun o => B f o k) n) n = if k = ke then M fe oe ke - B fe oe ke else 0 := by
   rw [← isum_sub, isum_congr (g := fun f => if f = fe then (if k = ke then M fe oe ke - B fe oe ke else 0) else 0) (fun f hf' => by
     rw [← isum_sub, isum_congr (g := fun o => if o = oe then (if f = fe ∧ k = ke then M fe oe ke - B fe oe ke else 0) else 0) (fun o ho' => by
       by_cases c : E f o k
       · rw [if_pos c]
         by_cases d : f = fe ∧ o = oe ∧ k = ke
         · obtain ⟨rfl, rfl, rfl⟩ := d
           rw [if_pos rfl, if_pos ⟨rfl, rfl⟩]
         · rw [heq f o k c d]
           by_cases d1 : o = oe
           · rw [if_pos d1, if_neg (fun e => d ⟨e.1, d1, e.2⟩)]; omega
           · rw [if_neg d1]; omega
       · rw [if_neg c]
         have hb : B f o k = 0 := by
           by_cases e : B f o k = 0
           · exact e
           · exact absurd (h.bz f o k e) c
         rw [hb]
         by_cases d1 : o = oe
         · rw [if_pos d1, if_neg (fun e => c (by rw [e.1, d1, e.2]; exact he))]; rfl
         · rw [if_neg d1]; rfl), isum_pt, if_pos ho]
     by_cases d : f = fe
     · rw [if_pos d]
       by_cases d2 : k = ke
       · rw [if_pos ⟨d, d2⟩, if_pos d2]
       · rw [if_neg (fun e => d2 e.2), if_neg d2]
     · rw [if_neg d, if_neg (fun e => d e.1)]), isum_pt, if_pos hf]
  omega
 have rP : ∀ f o, f < n → o < n → sumN n (D (nP f o)) = if f = fe ∧ o = oe then B fe oe ke - M fe oe ke else 0 := fun f o hf' ho' => by
  rw [hrow _ (vP hf' ho'), rr_P f o hf' ho', h.rP f o hf' ho', hRP f o hf' ho']
  have e1 : isum (rest E B f o) n + isum (fun k => if E f o k then M f o k - cap has q t (nP f o) (nT k) else 0) n = if f = fe ∧ o = oe then M fe oe ke - B fe oe ke else 0 := by
   rw [← isum_add, isum_congr (g := fun k => if k = ke then (if f = fe ∧ o = oe then M fe oe ke - B fe oe ke else 0) else 0) (fun k hk' => by
     by_cases c : E f o k
     · rw [rest_pos c, if_pos c, capPT has q t f o k (hE f o k c).2.2.2]
       by_cases d : f = fe ∧ o = oe ∧ k = ke
       · obtain ⟨rfl, rfl, rfl⟩ := d
         rw [if_pos rfl, if_pos ⟨rfl, rfl⟩]; omega
       · rw [heq f o k c d]
         by_cases d1 : k = ke
         · rw [if_pos d1, if_neg (fun e => d ⟨e.1, e.2, d1⟩)]; omega
         · rw [if_neg d1]; omega
     · rw [rest_neg c, if_neg c]
       by_cases d1 : k = ke
       · rw [if_pos d1, if_neg (fun e => c (by rw [e.1, e.2, d1]; exact he))]; rfl
       · rw [if_neg d1]; rfl), isum_pt, if_pos hk]
  by_cases c : f = fe ∧ o = oe
  · rw [if_pos c] at e1 ⊢; omega
  · rw [if_neg c] at e1 ⊢; omega
 have rE : sumN n (D nE) = 0 := by
  have h1 : sumN n (fun x => sumN n (D x)) = 0 := by
   have sw := sumN_swap n D
   have ng : sumN n (fun y => sumN n (fun x => D x y)) = sumN n (fun y => 0 - sumN n (D y)) := sumN_congr (fun y hy => by
     have e : sumN n (fun x => (0 : Int) - D y x) = sumN n (fun _ => 0) - sumN n (D y) := sumN_sub n (fun _ => 0) (D y)
     rw [sumN_zero] at e
     rw [← e]
     exact sumN_congr (fun x hx => by have := hskew x y hx hy; omega))
   have e2 : sumN n (fun y => (0 : Int) - sumN n (D y)) = sumN n (fun _ => 0) - sumN n (fun y => sumN n (D y)) := sumN_sub n (fun _ => 0) _
   rw [ng, e2, sumN_zero] at sw
   omega
  rw [sumN_def, rS, isum_nil rH, isum_congr rT, isum_pt, if_pos hk, isum_congr (fun f hf' => isum_congr (fun o ho' => rP f o hf' ho'))] at h1
  rw [isum_congr (g := fun f => if f = fe then B fe oe ke - M fe oe ke else 0) (fun f hf' => by
    rw [isum_congr (g := fun o => if o = oe then (if f = fe then B fe oe ke - M fe oe ke else 0) else 0) (fun o _ => by
      by_cases c1 : o = oe
      · by_cases c2 : f = fe
        · rw [if_pos ⟨c2, c1⟩, if_pos c1, if_pos c2]
        · rw [if_neg (fun e => c2 e.1), if_pos c1, if_neg c2]
      · rw [if_neg (fun e => c1 e.2), if_neg c1]), isum_pt, if_pos ho]), isum_pt, if_pos hf] at h1
  omega
 have key := skew_cut n D hskew (fun x => X (ix n x))
 have left : sumN n (fun x => if X (ix n x) then sumN n (D x) else 0) = M fe oe ke - B fe oe ke := by
  rw [sumN_def, rS, rE, isum_nil (fun f hf' => by rw [rH f hf']; split <;> rfl), isum_single (F := fun k => if X (ix n (nT k)) then sumN n (D (nT k)) else 0) hk (fun k hk' hne => by rw [rT k hk', if_neg hne]; split <;> rfl), if_pos xt, rT ke hk, if_pos rfl, isum_nil (fun f hf' => isum_nil (fun o ho' => by
    rw [rP f o hf' ho']
    by_cases c : f = fe ∧ o = oe
    · obtain ⟨rfl, rfl⟩ := c
      rw [if_neg xp]
    · rw [if_neg c]; split <;> rfl))]
  split <;> split <;> omega
 have right : sumN n (fun x => sumN n (fun y => if X (ix n x) ∧ ¬ X (ix n y) then D x y else 0)) ≤ 0 := by
  have := sumN_nonneg (n := n) (φ := fun x => 0 - sumN n (fun y => if X (ix n x) ∧ ¬ X (ix n y) then D x y else 0)) (fun x hx => by
    have h2 := sumN_nonneg (n := n) (φ := fun y => 0 - (if X (ix n x) ∧ ¬ X (ix n y) then D x y else 0)) (fun y hy => by
      by_cases c : X (ix n x) ∧ ¬ X (ix n y)
      · have h3 := hup x y hx hy
        rw [hz _ _ (ix_lt hx) (ix_lt hy) c.1 c.2] at h3
        simp only [if_pos c]; omega
      · simp only [if_neg c]; omega)
    have h4 : sumN n (fun y => (0 : Int) - (if X (ix n x) ∧ ¬ X (ix n y) then D x y else 0)) = sumN n (fun _ => 0) - sumN n (fun y => if X (ix n x) ∧ ¬ X (ix n y) then D x y else 0) := sumN_sub n (fun _ => 0) _
    rw [sumN_zero] at h4
    try simp only at h2
    try simp only
    omega)
  have h5 : sumN n (fun x => (0 : Int) - sumN n (fun y => if X (ix n x) ∧ ¬ X (ix n y) then D x y else 0)) = sumN n (fun _ => 0) - sumN n (fun x => sumN n (fun y => if X (ix n x) ∧ ¬ X (ix n y) then D x y else 0)) := sumN_sub n (fun _ => 0) _
  rw [sumN_zero] at h5
  omega
 omega
end
def inP (n : Nat) (pre : List S29) (f o k : Nat) : Prop := f < n ∧ o < n ∧ k < n ∧ mk29 f o k 0 ∈ pre
theorem ltM_irr (m : S29) : ¬ ltM m m := by unfold ltM; omega
theorem mk_inj {f o k f' o' k' : Nat} {b b' : Int} (h : mk29 f o k b = mk29 f' o' k' b') : f = f' ∧ o = o' ∧ k = k' := by
 unfold mk29 at h
 injection h with h1 h2 h3 _
 exact ⟨by omega, by omega, by omega⟩
def lexlt (f' o' k' f o k : Nat) : Prop := f' < f ∨ (f' = f ∧ (o' < o ∨ (o' = o ∧ k' < k)))
def MaxP (n : Nat) (has q : List Int) (t : List (List Int)) (pre : List S29) (B : Nat → Nat → Nat → Int) : Prop :=
 ∀ M, Feas n has q t M → (∀ f o k, M f o k ≤ A.unlim) → ∀ f o k, inP n pre f o k → (∀ f' o' k', inP n pre f' o' k' → lexlt f' o' k' f o k → M f' o' k' = B f' o' k') → M f o k ≤ B f o k
theorem run {n : Nat} {has q : List Int} {t : List (List Int)} {R0 : Nd → Int} {ord : List S29} (ho : Lst n (fun f o k => okM has q f o k) ord)
 (hRS : R0 nS = 0) (hRH : ∀ f, f < n → R0 (nH f) = isum (fun o => cap has q t (nH f) (nP f o)) n) (hRT : ∀ k, k < n → R0 (nT k) = cap has q t (nT k) nE) (hRP : ∀ f o, f < n → o < n → R0 (nP f o) = isum (fun k => cap has q t (nP f o) (nT k)) n)
 (hcap : ∀ x y, Vd n x → Vd n y → 0 ≤ cap has q t x y) : ∀ (L pre : List S29) (g : List (List Int)) (B : Nat → Nat → Nat → Int) (out : List S29), pre ++ L = ord → Ph n has q t R0 g (inP n pre) B out → MaxP n has q t pre B →
 ∃ B', Ph n has q t R0 (A.settleGo n L (g, out)).1 (inP n ord) B' (A.settleGo n L (g, out)).2 ∧ MaxP n has q t ord B' := by
 intro L
 induction L with
 | nil => intro pre g B out he h hmax; rw [List.append_nil] at he; subst he; exact ⟨B, h, hmax⟩
 | cons m ms ih =>
  intro pre g B out he h hmax
  obtain ⟨f, o, k, hf, ho', hk, hok, rfl⟩ := ho.all m (by rw [← he]; simp)
  have hs := ho.srt
  rw [← he, List.pairwise_append] at hs
  have hlt : ∀ f' o' k', inP n pre f' o' k' → f' < f ∨ (f' = f ∧ (o' < o ∨ (o' = o ∧ k' < k))) := fun f' o' k' hp => by
   have := hs.2.2 _ hp.2.2.2 _ List.mem_cons_self
   unfold ltM mk29 at this
   simp only at this
   omega
  have hno : ¬ inP n pre f o k := fun e => by have := hlt f o k e; omega
  have hB0 : B f o k = 0 := by
   by_cases e : B f o k = 0
   · exact e
   · exact absurd (h.bz f o k e) hno
  obtain ⟨b, _, _, h2, h3⟩ := h.step hf ho' hk hok hno hlt
  rw [A.settleGo]
  have hE : (fun f' o' k' => inP n pre f' o' k' ∨ (f' = f ∧ o' = o ∧ k' = k)) = inP n (pre ++ [mk29 f o k 0]) := by
   funext f' o' k'
   apply propext
   unfold inP
   constructor
   · rintro (⟨a1, a2, a3, a4⟩ | ⟨rfl, rfl, rfl⟩)
     · exact ⟨a1, a2, a3, List.mem_append.2 (Or.inl a4)⟩
     · exact ⟨hf, ho', hk, List.mem_append.2 (Or.inr (List.mem_singleton.2 rfl))⟩
   · rintro ⟨a1, a2, a3, a4⟩
     rcases List.mem_append.1 a4 with a4 | a4
     · exact Or.inl ⟨a1, a2, a3, a4⟩
     · exact Or.inr (mk_inj (List.mem_singleton.1 a4))
  rw [hE] at h2
  have hin : inP n (pre ++ [mk29 f o k 0]) f o k := ⟨hf, ho', hk, List.mem_append.2 (Or.inr (List.mem_singleton.2 rfl))⟩
  have hor : ∀ f' o' k', inP n (pre ++ [mk29 f o k 0]) f' o' k' → inP n pre f' o' k' ∨ (f' = f ∧ o' = o ∧ k' = k) := fun f' o' k' e => by rw [← hE] at e; exact e
  have bkk : bump B f o k b f o k = b := by unfold bump; rw [if_pos ⟨rfl, rfl, rfl⟩, hB0]; omega
  have bne : ∀ f' o' k', ¬ (f' = f ∧ o' = o ∧ k' = k) → bump B f o k b f' o' k' = B f' o' k' := fun f' o' k' c => by unfold bump; rw [if_neg c]; omega
  have hmax' : MaxP n has q t (pre ++ [mk29 f o k 0]) (bump B f o k b) := fun M hM hu f1 o1 k1 hp hless => by
   by_cases c : f1 = f ∧ o1 = o ∧ k1 = k
   · obtain ⟨rfl, rfl, rfl⟩ := c
     rcases h3 with h3 | ⟨X, hX⟩
     · rw [bkk]
       have := hu f1 o1 k1
       have hul : A.unlim = 1125899906842624 := rfl
       omega
     · refine max_of_cut h2 (fun f' o' k' e => ?_) hRS hRH hRT hRP hcap hM hu f1 o1 k1 hin (fun f' o' k' e hne => ?_) hX
       · have hm : mk29 f' o' k' 0 ∈ ord := by
          rw [← he]
          rcases List.mem_append.1 e.2.2.2 with e' | e'
          · exact List.mem_append.2 (Or.inl e')
          · rw [List.mem_singleton.1 e']; simp
         obtain ⟨f'', o'', k'', _, _, _, d5, e5⟩ := ho.all _ hm
         obtain ⟨rfl, rfl, rfl⟩ := mk_inj e5
         exact ⟨e.1, e.2.1, e.2.2.1, d5⟩
       · refine hless f' o' k' e ?_
         rcases hor f' o' k' e with e' | e'
         · exact hlt f' o' k' e'
         · exact absurd e' hne
   · rw [bne f1 o1 k1 c]
     have hp' := (hor f1 o1 k1 hp).resolve_right c
     refine hmax M hM hu f1 o1 k1 hp' (fun f' o' k' e hl => ?_)
     have hne : ¬ (f' = f ∧ o' = o ∧ k' = k) := fun z => hno (by rw [← z.1, ← z.2.1, ← z.2.2]; exact e)
     rw [hless f' o' k' ⟨e.1, e.2.1, e.2.2.1, List.mem_append.2 (Or.inl e.2.2.2)⟩ hl, bne f' o' k' hne]
  exact ih (pre ++ [mk29 f o k 0]) (A.settleStep n (g, out) (mk29 f o k 0)).1 _ (A.settleStep n (g, out) (mk29 f o k 0)).2 (by rw [List.append_assoc]; exact he) h2 hmax'
section
variable {n : Nat} {has q : List Int} {t : List (List Int)}
theorem cap_zero {x y : Nd} (hx : Vd n x) (hy : Vd n y) (h : ∀ f o k, ¬ (x = nS ∧ y = nH f) ∧ ¬ (x = nT k ∧ y = nE) ∧ ¬ (x = nH f ∧ y = nP f o) ∧ ¬ (x = nP f o ∧ y = nT k)) : cap has q t x y = 0 := by
 by_cases c : cap has q t x y = 0
 · exact c
 · rcases cap_cases n has q t hx hy c with ⟨f, _, e1, e2, _⟩ | ⟨k, _, e1, e2, _⟩ | ⟨f, o, _, _, e1, e2, _⟩ | ⟨f, o, k, _, _, _, e1, e2, _⟩
   · exact absurd ⟨e1, e2⟩ (h f 0 0).1
   · exact absurd ⟨e1, e2⟩ (h 0 0 k).2.1
   · exact absurd ⟨e1, e2⟩ (h f o 0).2.2.1
   · exact absurd ⟨e1, e2⟩ (h f o k).2.2.2
theorem isum_all0 {F : Nat → Int} {m : Nat} (h : ∀ i, i < m → F i = 0) : isum F m = 0 := by
 rw [isum_congr (g := fun _ => 0) h, isum_zero]
theorem isum_only {F : Nat → Int} {m p : Nat} (hp : p < m) (h : ∀ i, i < m → i ≠ p → F i = 0) : isum F m = F p := by
 rw [isum_congr (g := fun i => if i = p then F p else 0) (fun i hi => by
   by_cases e : i = p
   · rw [if_pos e, e]
   · rw [if_neg e]; exact h i hi e), isum_pt, if_pos hp]
end
section
variable {t : List (List Int)} {q : List Int} (hf : A.fitsT t q = true) (hs : (A.settleOut t q).2 = 0)
include hf hs
open Classical in
theorem fixed : ∃ B : Nat → Nat → Nat → Int, (∀ f o k, 0 ≤ B f o k) ∧ (∀ f o k, B f o k ≠ 0 → f < t.length ∧ o < t.length ∧ k < t.length ∧ okM (A.heldT t) q f o k) ∧
 (∀ f o : Nat, f < t.length → o < t.length → isum (B f o) t.length ≤ A.get t f o) ∧
 (∀ f : Nat, f < t.length → overB (A.heldT t) q f → isum (fun o => isum (B f o) t.length) t.length = rd (A.heldT t) f - rd q f) ∧
 (∀ k : Nat, k < t.length → ¬ overB (A.heldT t) q k → isum (fun f => isum (fun o => B f o k) t.length) t.length ≤ rd q k - rd (A.heldT t) k) ∧
 (∀ m ∈ (A.settleOut t q).1, ∃ f o k, f < t.length ∧ o < t.length ∧ k < t.length ∧ okM (A.heldT t) q f o k ∧ 0 < B f o k ∧ m = mk29 f o k (B f o k)) ∧ (A.settleOut t q).1.Pairwise ltM ∧
 (∀ f o : Nat, f < t.length → o < t.length → isum (B f o) t.length = ((A.settleOut t q).1.map fun m => if m.f0 = (f : Int) ∧ m.f2 = (o : Int) then m.f3 else 0).sum) ∧
 (∀ k o : Nat, k < t.length → o < t.length → isum (fun f => B f o k) t.length = ((A.settleOut t q).1.map fun m => if m.f1 = (k : Int) ∧ m.f2 = (o : Int) then m.f3 else 0).sum) ∧
 (∀ M, Feas t.length (A.heldT t) q t M → (∀ f o k, M f o k ≤ A.unlim) → ∀ f o k, f < t.length → o < t.length → k < t.length → okM (A.heldT t) q f o k → (∀ f' o' k', lexlt f' o' k' f o k → M f' o' k' = B f' o' k') → M f o k ≤ B f o k) := by
 have hv := fit_valid hf
 obtain ⟨_, hcap⟩ := built hf
 have hnet := built_net hf
 obtain ⟨ho, ho0, _⟩ := over_eq hf t.length (Nat.le_refl _)
 have hob : (A.buildNet t q).2.1 = isum (fun f => if overB (A.heldT t) q f then rd (A.heldT t) f - rd q f else 0) t.length := ho
 have hord := order_ok t q
 have hcr := fun (x y : Nd) (hx : Vd t.length x) (hy : Vd t.length y) => cap_range hf hx hy
 have l0 : (0 : Nat) < A.netSize t.length := ix_lt (vS t.length)
 have l1 : (1 : Nat) < A.netSize t.length := ix_lt (vE t.length)
 obtain ⟨v, v0, v1, v2, v3, v4⟩ := flow (N := A.netSize t.length) (M := 2251799813685248) (by omega) 0 1 l0 l1 (by omega) (A.buildNet t q).2.1 (A.buildNet t q).2.1.toNat (A.buildNet t q).1 0 hnet (Int.le_refl _) (by omega) (by omega)
 have v1' : (A.flowG 0 1 (A.buildNet t q).2.1 (A.buildNet t q).2.1.toNat (A.buildNet t q).1 0).2 = 0 + v := v1
 have hso : A.settleOut t q = (if (A.flowG 0 1 (A.buildNet t q).2.1 (A.buildNet t q).2.1.toNat (A.buildNet t q).1 0).2 < (A.buildNet t q).2.1 then ([], 7) else ((A.settleGo t.length (A.buildNet t q).2.2 ((A.flowG 0 1 (A.buildNet t q).2.1 (A.buildNet t q).2.1.toNat (A.buildNet t q).1 0).1, [])).2, 0)) := by
  rw [A.settleOut, if_pos hf]
 have hnlt : ¬ (A.flowG 0 1 (A.buildNet t q).2.1 (A.buildNet t q).2.1.toNat (A.buildNet t q).1 0).2 < (A.buildNet t q).2.1 := fun e => by
  rw [hso, if_pos e] at hs
  cases hs
 have hv2 : v = (A.buildNet t q).2.1 := by omega
 rw [if_neg hnlt] at hso
 have v3' : Sent (A.netSize t.length) 2251799813685248 (A.buildNet t q).1 (A.flowG 0 1 (A.buildNet t q).2.1 (A.buildNet t q).2.1.toNat (A.buildNet t q).1 0).1 0 1 v := v3
 clear v1 v3 v4 v1' hnlt
 generalize (A.flowG 0 1 (A.buildNet t q).2.1 (A.buildNet t q).2.1.toNat (A.buildNet t q).1 0).1 = g1 at v3' hso
 generalize hn : t.length = n at *
 generalize hhas : A.heldT t = has at *
 have row0 : ∀ x, Vd n x → R (A.netSize n) (A.buildNet t q).1 (ix n x) = sumN n (fun y => cap has q t x y) := fun x hx => by
  unfold R
  rw [isum_nodes]
  exact sumN_congr (fun y hy => hcap x y hx hy)
 have start : Ph n has q t (fun x => R (A.netSize n) g1 (ix n x)) g1 (inP n []) (fun _ _ _ => 0) [] := by
  refine ⟨v3'.net, fun x y hx hy => ?_, fun _ _ _ => Int.le_refl _, fun _ _ _ e => absurd rfl e, rfl, fun _ _ => rfl, fun k _ => ?_, fun f o _ _ => ?_, (fun m hm => by cases hm), List.Pairwise.nil, fun f o _ _ => ?_, fun k o _ _ => ?_⟩
  · rw [v3'.same _ _ (ix_lt hx) (ix_lt hy), hcap x y hx hy, hcap y x hy hx, if_neg]
    rintro ⟨f, o, k, e, _⟩
    exact absurd e.2.2.2 (by simp)
  · rw [isum_all0 (fun f _ => isum_all0 (fun o _ => rfl))]; omega
  · rw [isum_all0 (fun k _ => rest_neg (fun e => absurd e.2.2.2 (by simp)))]; omega
  · exact isum_all0 (fun k _ => rfl)
  · exact isum_all0 (fun k _ => rfl)
 have rowP1 : ∀ x, Vd n x → x ≠ nS → x ≠ nE → R (A.netSize n) g1 (ix n x) = sumN n (fun y => cap has q t x y) := fun x hx h1 h2 => by
  rw [v3'.row _ (ix_lt hx), if_neg (fun e => h1 (ix_inj hx (vS n) (by rw [ixS]; exact e))), if_neg (fun e => h2 (ix_inj hx (vE n) (by rw [ixE]; exact e))), row0 x hx]; omega
 have R1S : R (A.netSize n) g1 (ix n nS) = 0 := by
  rw [v3'.row _ (ix_lt (vS n)), if_pos (ixS n), if_neg (by rw [ixS]; omega), row0 nS (vS n), hv2, hob, sumN_def]
  rw [cap_zero (n := n) (vS n) (vS n) (fun f o k => by simp [nS, nH, nT, nE, nP]), cap_zero (n := n) (vS n) (vE n) (fun f o k => by simp [nS, nH, nT, nE, nP]), isum_all0 (fun k hk => cap_zero (n := n) (vS n) (vT hk) (fun f o k' => by simp [nS, nH, nT, nE, nP])), isum_all0 (fun f hf' => isum_all0 (fun o ho' => cap_zero (n := n) (vS n) (vP hf' ho') (fun f' o' k' => by simp [nS, nH, nT, nE, nP])))]
  have : isum (fun f => cap has q t nS (nH f)) n = isum (fun f => if overB has q f then rd has f - rd q f else 0) n := isum_congr (fun f _ => by
    by_cases c : overB has q f
    · rw [if_pos c, capSH has q t f c]
    · rw [if_neg c]
      unfold cap nS nH
      rw [if_pos rfl, if_neg (fun e => c e.2)])
  rw [this]; omega
 have R1P : ∀ f o, f < n → o < n → R (A.netSize n) g1 (ix n (nP f o)) = isum (fun k => cap has q t (nP f o) (nT k)) n := fun f o hfn hon => by
  rw [rowP1 _ (vP hfn hon) (by simp [nP, nS]) (by simp [nP, nE]), sumN_def]
  rw [cap_zero (n := n) (vP hfn hon) (vS n) (fun f o k => by simp [nS, nH, nT, nE, nP]), cap_zero (n := n) (vP hfn hon) (vE n) (fun f o k => by simp [nS, nH, nT, nE, nP]), isum_all0 (fun k hk => cap_zero (n := n) (vP hfn hon) (vH hk) (fun f o k' => by simp [nS, nH, nT, nE, nP])), isum_all0 (fun f' hf' => isum_all0 (fun o' ho' => cap_zero (n := n) (vP hfn hon) (vP hf' ho') (fun f' o' k' => by simp [nS, nH, nT, nE, nP])))]
  omega
 have R1H : ∀ f, f < n → R (A.netSize n) g1 (ix n (nH f)) = isum (fun o => cap has q t (nH f) (nP f o)) n := fun f hfn => by
  rw [rowP1 _ (vH hfn) (by simp [nH, nS]) (by simp [nH, nE]), sumN_def]
  rw [cap_zero (n := n) (vH hfn) (vS n) (fun f o k => by simp [nS, nH, nT, nE, nP]), cap_zero (n := n) (vH hfn) (vE n) (fun f o k => by simp [nS, nH, nT, nE, nP]), isum_all0 (fun k hk => cap_zero (n := n) (vH hfn) (vH hk) (fun f o k' => by simp [nS, nH, nT, nE, nP])), isum_all0 (fun k hk => cap_zero (n := n) (vH hfn) (vT hk) (fun f o k' => by simp [nS, nH, nT, nE, nP])),
    isum_only (F := fun f' => isum (fun o => cap has q t (nH f) (nP f' o)) n) hfn (fun f' hf' hne => isum_all0 (fun o hon => cap_zero (n := n) (vH hfn) (vP hf' hon) (fun f'' o'' k => by
      simp only [nS, nH, nT, nE, nP, Prod.mk.injEq]
      omega)))]
  omega
 have R1T : ∀ k, k < n → R (A.netSize n) g1 (ix n (nT k)) = cap has q t (nT k) nE := fun k hkn => by
  rw [rowP1 _ (vT hkn) (by simp [nT, nS]) (by simp [nT, nE]), sumN_def]
  rw [cap_zero (n := n) (vT hkn) (vS n) (fun f o k => by simp [nS, nH, nT, nE, nP]), isum_all0 (fun k' hk => cap_zero (n := n) (vT hkn) (vH hk) (fun f o k' => by simp [nS, nH, nT, nE, nP])), isum_all0 (fun k' hk => cap_zero (n := n) (vT hkn) (vT hk) (fun f o k' => by simp [nS, nH, nT, nE, nP])), isum_all0 (fun f' hf' => isum_all0 (fun o' ho' => cap_zero (n := n) (vT hkn) (vP hf' ho') (fun f' o' k' => by simp [nS, nH, nT, nE, nP])))]
  omega
 obtain ⟨B, hP, hmax⟩ := run hord R1S R1H R1T R1P (fun x y hx hy => (hcr x y hx hy).1) (A.buildNet t q).2.2 [] g1 _ [] (by simp) start (fun _ _ _ f o k e => absurd e.2.2.2 (by simp))
 rw [hso]
 simp only
 generalize (A.settleGo n (A.buildNet t q).2.2 (g1, [])).1 = g at hP
 generalize (A.settleGo n (A.buildNet t q).2.2 (g1, [])).2 = out at hP
 have hE : ∀ f o k, inP n (A.buildNet t q).2.2 f o k ↔ f < n ∧ o < n ∧ k < n ∧ okM has q f o k := fun f o k => by
  constructor
  · rintro ⟨a, b, c, d⟩
    obtain ⟨f', o', k', _, _, _, d5, e⟩ := hord.all _ d
    obtain ⟨rfl, rfl, rfl⟩ := mk_inj e
    exact ⟨a, b, c, d5⟩
  · rintro ⟨a, b, c, d⟩
    exact ⟨a, b, c, hord.has f o k a b c d⟩
 have hB : ∀ f o k, B f o k ≠ 0 → f < n ∧ o < n ∧ k < n ∧ okM has q f o k := fun f o k e => (hE f o k).1 (hP.bz f o k e)
 have low : ∀ x y, Vd n x → Vd n y → 0 ≤ A.get g (ix n x) (ix n y) := fun x y hx hy => hP.net.low _ _ (ix_lt hx) (ix_lt hy)
 have none : ∀ x y, Vd n x → Vd n y → cap has q t x y = 0 → cap has q t y x = 0 → A.get g (ix n x) (ix n y) = 0 := fun x y hx hy c1 c2 => by
  have h1 := hP.sums x y hx hy
  have h2 := low x y hx hy
  have h3 := low y x hy hx
  rw [c1, c2] at h1
  split at h1 <;> omega
 have rowg : ∀ x, Vd n x → R (A.netSize n) g (ix n x) = sumN n (fun y => A.get g (ix n x) (ix n y)) := fun x hx => by
  unfold R
  rw [isum_nodes]
 have rS : R (A.netSize n) g (ix n nS) = 0 := by
  rw [hP.rS]
  exact R1S
 have gSH : ∀ f, f < n → A.get g (ix n nS) (ix n (nH f)) = 0 := fun f hfn => by
  have h1 := rowg nS (vS n)
  rw [rS] at h1
  have h2 := sumN_H (fun y hy => low nS y (vS n) hy)
  have h3 := isum_one (f := fun f => A.get g (ix n nS) (ix n (nH f))) f hfn (fun i hi => low nS (nH i) (vS n) (vH hi))
  have h4 := low nS (nH f) (vS n) (vH hfn)
  try simp only at h3
  omega
 have rowP : ∀ f o, f < n → o < n → isum (B f o) n = A.get g (ix n (nP f o)) (ix n (nH f)) := fun f o hfn hon => by
  have h1 := hP.rP f o hfn hon
  have h2 := R1P f o hfn hon
  have h3 : isum (rest (inP n (A.buildNet t q).2.2) B f o) n + isum (B f o) n = isum (fun k => cap has q t (nP f o) (nT k)) n := by
   rw [← isum_add]
   refine isum_congr (fun k hkn => ?_)
   by_cases c : okM has q f o k
   · rw [rest_pos ((hE f o k).2 ⟨hfn, hon, hkn, c⟩), capPT has q t f o k c]; omega
   · rw [rest_neg (fun e => c ((hE f o k).1 e).2.2.2)]
     have hb0 : B f o k = 0 := by
      by_cases e : B f o k = 0
      · exact e
      · exact absurd (hB f o k e).2.2.2 c
     rw [hb0]
     unfold cap nP nT
     rw [if_neg (by simp), if_neg (by simp), if_neg (by simp), if_pos rfl, if_neg (fun e => c e.2)]
     rfl
  have h4 : R (A.netSize n) g (ix n (nP f o)) = A.get g (ix n (nP f o)) (ix n (nH f)) := by
   rw [rowg _ (vP hfn hon), sumN_def]
   rw [none _ _ (vP hfn hon) (vS n) (cap_zero (n := n) (vP hfn hon) (vS n) (fun f o k => by simp [nS, nH, nT, nE, nP])) (cap_zero (n := n) (vS n) (vP hfn hon) (fun f o k => by simp [nS, nH, nT, nE, nP])),
     none _ _ (vP hfn hon) (vE n) (cap_zero (n := n) (vP hfn hon) (vE n) (fun f o k => by simp [nS, nH, nT, nE, nP])) (cap_zero (n := n) (vE n) (vP hfn hon) (fun f o k => by simp [nS, nH, nT, nE, nP])),
     isum_all0 (fun f' hf' => isum_all0 (fun o' ho' => none _ _ (vP hfn hon) (vP hf' ho') (cap_zero (n := n) (vP hfn hon) (vP hf' ho') (fun f o k => by simp [nS, nH, nT, nE, nP])) (cap_zero (n := n) (vP hf' ho') (vP hfn hon) (fun f o k => by simp [nS, nH, nT, nE, nP])))),
     isum_only (F := fun f' => A.get g (ix n (nP f o)) (ix n (nH f'))) hfn (fun f' hf' hne => none _ _ (vP hfn hon) (vH hf') (cap_zero (n := n) (vP hfn hon) (vH hf') (fun f o k => by simp [nS, nH, nT, nE, nP])) (cap_zero (n := n) (vH hf') (vP hfn hon) (fun f'' o'' k => by
       simp only [nS, nH, nT, nE, nP, Prod.mk.injEq]
       omega))),
     isum_all0 (fun k hkn => ?_)]
   · omega
   · have h5 := hP.sums (nP f o) (nT k) (vP hfn hon) (vT hkn)
     have h6 := low (nP f o) (nT k) (vP hfn hon) (vT hkn)
     have h7 := low (nT k) (nP f o) (vT hkn) (vP hfn hon)
     by_cases c : okM has q f o k
     · rw [if_pos ⟨f, o, k, (hE f o k).2 ⟨hfn, hon, hkn, c⟩, Or.inl ⟨rfl, rfl⟩⟩] at h5
       omega
     · have c1 : cap has q t (nP f o) (nT k) = 0 := by
        unfold cap nP nT
        rw [if_neg (by simp), if_neg (by simp), if_neg (by simp), if_pos rfl, if_neg (fun e => c e.2)]
       exact none _ _ (vP hfn hon) (vT hkn) c1 (cap_zero (n := n) (vT hkn) (vP hfn hon) (fun f o k => by simp [nS, nH, nT, nE, nP]))
  have h1' : R (A.netSize n) g (ix n (nP f o)) = R (A.netSize n) g1 (ix n (nP f o)) - isum (rest (inP n (A.buildNet t q).2.2) B f o) n := h1
  omega
 have pairHP : ∀ f o, f < n → o < n → A.get g (ix n (nH f)) (ix n (nP f o)) + A.get g (ix n (nP f o)) (ix n (nH f)) = cap has q t (nH f) (nP f o) := fun f o hfn hon => by
  rw [hP.sums _ _ (vH hfn) (vP hfn hon), if_neg, cap_zero (n := n) (vP hfn hon) (vH hfn) (fun f o k => by simp [nS, nH, nT, nE, nP])]
  · omega
  · rintro ⟨f', o', k', _, ⟨e1, e2⟩ | ⟨e1, e2⟩⟩
    · simp [nH, nP] at e1
    · simp [nH, nT] at e1
 refine ⟨B, hP.b0, hB, fun f o hfn hon => ?_, fun f hfn hov => ?_, fun k hkn hun => ?_, fun m hm => ?_, hP.os, hP.og, hP.ot, fun M hM hu f o k a1 a2 a3 a4 hl => hmax M hM hu f o k ((hE f o k).2 ⟨a1, a2, a3, a4⟩) (fun f' o' k' _ hl' => hl f' o' k' hl')⟩
 · rw [rowP f o hfn hon]
   have h1 := pairHP f o hfn hon
   have h2 := low (nH f) (nP f o) (vH hfn) (vP hfn hon)
   by_cases c : overB has q f
   · rw [capHP has q t f o c] at h1; omega
   · have : cap has q t (nH f) (nP f o) = 0 := by
      unfold cap nH nP
      rw [if_neg (by simp), if_neg (by simp), if_pos rfl, if_neg (fun e => c e.2.2)]
     have h4 := (A.valid_good hv).2 f o (by omega) (by omega) (by omega) (by omega)
     omega
 · have h1 := hP.rH f hfn
   have h2 := R1H f hfn
   have h3 : R (A.netSize n) g (ix n (nH f)) = A.get g (ix n (nH f)) (ix n nS) + isum (fun o => A.get g (ix n (nH f)) (ix n (nP f o))) n := by
    rw [rowg _ (vH hfn), sumN_def]
    rw [none _ _ (vH hfn) (vE n) (cap_zero (n := n) (vH hfn) (vE n) (fun f o k => by simp [nS, nH, nT, nE, nP])) (cap_zero (n := n) (vE n) (vH hfn) (fun f o k => by simp [nS, nH, nT, nE, nP])),
      isum_all0 (fun k hk => none _ _ (vH hfn) (vH hk) (cap_zero (n := n) (vH hfn) (vH hk) (fun f o k' => by simp [nS, nH, nT, nE, nP])) (cap_zero (n := n) (vH hk) (vH hfn) (fun f o k' => by simp [nS, nH, nT, nE, nP]))),
      isum_all0 (fun k hk => none _ _ (vH hfn) (vT hk) (cap_zero (n := n) (vH hfn) (vT hk) (fun f o k' => by simp [nS, nH, nT, nE, nP])) (cap_zero (n := n) (vT hk) (vH hfn) (fun f o k' => by simp [nS, nH, nT, nE, nP]))),
      isum_only (F := fun f' => isum (fun o => A.get g (ix n (nH f)) (ix n (nP f' o))) n) hfn (fun f' hf' hne => isum_all0 (fun o hon => none _ _ (vH hfn) (vP hf' hon) (cap_zero (n := n) (vH hfn) (vP hf' hon) (fun f'' o'' k => by
        simp only [nS, nH, nT, nE, nP, Prod.mk.injEq]
        omega)) (cap_zero (n := n) (vP hf' hon) (vH hfn) (fun f o k' => by simp [nS, nH, nT, nE, nP]))))]
    omega
   have h4 : A.get g (ix n (nH f)) (ix n nS) = rd has f - rd q f := by
    have h5 := hP.sums _ _ (vS n) (vH hfn)
    rw [if_neg, gSH f hfn, capSH has q t f hov, cap_zero (n := n) (vH hfn) (vS n) (fun f o k => by simp [nS, nH, nT, nE, nP])] at h5
    · omega
    · rintro ⟨f', o', k', _, ⟨e1, e2⟩ | ⟨e1, e2⟩⟩
      · simp [nS, nP] at e1
      · simp [nS, nT] at e1
   have h5 : isum (fun o => A.get g (ix n (nH f)) (ix n (nP f o))) n + isum (fun o => isum (B f o) n) n = isum (fun o => cap has q t (nH f) (nP f o)) n := by
    rw [← isum_add]
    exact isum_congr (fun o hon => by rw [rowP f o hfn hon]; exact pairHP f o hfn hon)
   have h1' : R (A.netSize n) g (ix n (nH f)) = R (A.netSize n) g1 (ix n (nH f)) := h1
   omega
 · have h1 : R (A.netSize n) g (ix n (nT k)) = R (A.netSize n) g1 (ix n (nT k)) - isum (fun f => isum (fun o => B f o k) n) n := hP.rT k hkn
   have h2 : R (A.netSize n) g1 (ix n (nT k)) = rd q k - rd has k := by rw [R1T k hkn, capTE has q t k hun]
   have h3 : 0 ≤ R (A.netSize n) g (ix n (nT k)) := by
    rw [rowg _ (vT hkn)]
    exact sumN_nonneg (fun y hy => low (nT k) y (vT hkn) hy)
   omega
 · obtain ⟨f, o, k, a1, a2, a3, a4, a5, a6⟩ := hP.oa m hm
   exact ⟨f, o, k, a1, a2, a3, ((hE f o k).1 a4).2.2.2, a5, a6⟩
end
def okR (h o k : Nat) : Prop := k ≠ h ∧ k ≠ o
open Classical in
noncomputable def valS (n : Nat) (give : Nat → Int) (hs : Nat → Nat → Int) (take : Nat → Int) (S : Nat → Prop) : Int :=
 isum (fun k => if S k then take k else 0) n + isum (fun h => min (give h) (isum (fun o => if (∃ k, k < n ∧ ¬ S k ∧ okR h o k) then hs h o else 0) n)) n
structure Asg (n : Nat) (give : Nat → Int) (hs : Nat → Nat → Int) (take : Nat → Int) (y : Nat → Nat → Nat → Int) : Prop where
 y0 : ∀ h o k, 0 ≤ y h o k
 yz : ∀ h o k, y h o k ≠ 0 → h < n ∧ o < n ∧ k < n ∧ okR h o k
 yh : ∀ h o, h < n → o < n → isum (y h o) n ≤ hs h o
 yg : ∀ h, h < n → isum (fun o => isum (y h o) n) n ≤ give h
 yt : ∀ k, k < n → isum (fun h => isum (fun o => y h o k) n) n ≤ take k
def tot (n : Nat) (y : Nat → Nat → Nat → Int) : Int := isum (fun h => isum (fun o => isum (y h o) n) n) n
open Classical in
theorem weak {n : Nat} {give : Nat → Int} {hs : Nat → Nat → Int} {take : Nat → Int} {y : Nat → Nat → Nat → Int} (h : Asg n give hs take y) (S : Nat → Prop) : tot n y ≤ valS n give hs take S := by
 have e1 : tot n y = isum (fun h => isum (fun o => isum (fun k => if S k then y h o k else 0) n) n) n + isum (fun h => isum (fun o => isum (fun k => if S k then 0 else y h o k) n) n) n := by
  unfold tot
  rw [← isum_add]
  refine isum_congr (fun f _ => ?_)
  rw [← isum_add]
  refine isum_congr (fun o _ => ?_)
  rw [← isum_add]
  refine isum_congr (fun k _ => ?_)
  split <;> omega
 have e2 : isum (fun h => isum (fun o => isum (fun k => if S k then y h o k else 0) n) n) n ≤ isum (fun k => if S k then take k else 0) n := by
  rw [isum_congr (fun h _ => isum_swap (fun o k => if S k then y h o k else 0) n n), isum_swap (fun h k => isum (fun o => if S k then y h o k else 0) n) n n]
  refine isum_mono (fun k hk => ?_)
  by_cases c : S k
  · rw [if_pos c]
    refine Int.le_trans (Int.le_of_eq ?_) (h.yt k hk)
    exact isum_congr (fun f _ => isum_congr (fun o _ => by rw [if_pos c]))
  · rw [if_neg c, isum_nil (fun f _ => isum_nil (fun o _ => by rw [if_neg c]))]
    exact Int.le_refl _
 have e3 : isum (fun h => isum (fun o => isum (fun k => if S k then 0 else y h o k) n) n) n ≤ isum (fun h => min (give h) (isum (fun o => if (∃ k, k < n ∧ ¬ S k ∧ okR h o k) then hs h o else 0) n)) n := by
  refine isum_mono (fun f hf => ?_)
  have le1 : isum (fun o => isum (fun k => if S k then 0 else y f o k) n) n ≤ give f := by
   refine Int.le_trans (isum_mono (fun o _ => isum_mono (fun k _ => ?_))) (h.yg f hf)
   have := h.y0 f o k
   split <;> omega
  have le2 : isum (fun o => isum (fun k => if S k then 0 else y f o k) n) n ≤ isum (fun o => if (∃ k, k < n ∧ ¬ S k ∧ okR f o k) then hs f o else 0) n := by
   refine isum_mono (fun o ho => ?_)
   by_cases c : ∃ k, k < n ∧ ¬ S k ∧ okR f o k
   · rw [if_pos c]
     refine Int.le_trans (isum_mono (fun k _ => ?_)) (h.yh f o hf ho)
     have := h.y0 f o k
     split <;> omega
   · rw [if_neg c, isum_nil (fun k hk => by
       by_cases d : S k
       · rw [if_pos d]
       · rw [if_neg d]
         by_cases e : y f o k = 0
         · exact e
         · exact absurd ⟨k, hk, d, (h.yz f o k e).2.2.2⟩ c)]
     exact Int.le_refl _
  omega
 unfold valS
 omega
section
variable (n : Nat) (give : Nat → Int) (hs : Nat → Nat → Int) (take : Nat → Int)
open Classical in
noncomputable def cp (x y : Nd) : Int :=
 if x.1 = 0 ∧ y.1 = 2 then give y.2.1
 else if x.1 = 3 ∧ y.1 = 1 then take x.2.1
 else if x.1 = 2 ∧ y.1 = 4 ∧ x.2.1 = y.2.1 then hs x.2.1 y.2.2
 else if x.1 = 4 ∧ y.1 = 3 ∧ okR x.2.1 x.2.2 y.2.1 then A.unlim
 else 0
theorem cpSH (f : Nat) : cp give hs take nS (nH f) = give f := by unfold cp nS nH; simp
theorem cpTE (k : Nat) : cp give hs take (nT k) nE = take k := by unfold cp nT nE; simp
theorem cpHP (f o : Nat) : cp give hs take (nH f) (nP f o) = hs f o := by unfold cp nH nP; simp
theorem cpPT (f o k : Nat) (h : okR f o k) : cp give hs take (nP f o) (nT k) = A.unlim := by unfold cp nP nT; simp [h]
theorem cpPTn (f o k : Nat) (h : ¬ okR f o k) : cp give hs take (nP f o) (nT k) = 0 := by unfold cp nP nT; simp [h]
theorem cp_zero {x y : Nd} (h : ¬ (x.1 = 0 ∧ y.1 = 2) ∧ ¬ (x.1 = 3 ∧ y.1 = 1) ∧ ¬ (x.1 = 2 ∧ y.1 = 4 ∧ x.2.1 = y.2.1) ∧ ¬ (x.1 = 4 ∧ y.1 = 3)) : cp give hs take x y = 0 := by
 unfold cp
 rw [if_neg h.1, if_neg h.2.1, if_neg h.2.2.1, if_neg (fun e => h.2.2.2 ⟨e.1, e.2.1⟩)]
open Classical in
noncomputable def nodeAt (i : Nat) : Nd := if h : i < A.netSize n then Classical.choose (node_of h) else nS
theorem nodeAt_ix {x : Nd} (hx : Vd n x) : nodeAt n (ix n x) = x := by
 unfold nodeAt
 rw [dif_pos (ix_lt hx)]
 obtain ⟨h1, h2⟩ := Classical.choose_spec (node_of (ix_lt hx))
 exact ix_inj h1 hx h2
noncomputable def tabN : List (List Int) := (List.range (A.netSize n)).map fun i => (List.range (A.netSize n)).map fun j => cp give hs take (nodeAt n i) (nodeAt n j)
theorem tabN_sq : A.Sqn (A.netSize n) (tabN n give hs take) := by
 refine ⟨by simp [tabN], fun i i0 i1 => ?_⟩
 obtain ⟨i, rfl⟩ := Int.eq_ofNat_of_zero_le i0
 rw [rd1_eq _ i (by simp [tabN]; omega)]
 simp [tabN]
theorem tabN_get {x y : Nd} (hx : Vd n x) (hy : Vd n y) : A.get (tabN n give hs take) (ix n x) (ix n y) = cp give hs take x y := by
 have lx := ix_lt hx
 have ly := ix_lt hy
 unfold A.get
 rw [rd1_eq _ (ix n x) (by simp [tabN]; exact lx)]
 rw [rd_eq _ (ix n y) (by simp [tabN]; exact ly)]
 simp [tabN, nodeAt_ix n hx, nodeAt_ix n hy]
end
section
variable {n : Nat} {give : Nat → Int} {hs : Nat → Nat → Int} {take : Nat → Int} (g0 : ∀ h, h < n → 0 ≤ give h ∧ give h ≤ 1000000000) (h0 : ∀ h o, h < n → o < n → 0 ≤ hs h o ∧ hs h o ≤ 1000000000) (t0 : ∀ k, k < n → 0 ≤ take k ∧ take k ≤ 10000000000000)
include g0 h0 t0
theorem cp_range {x y : Nd} (hx : Vd n x) (hy : Vd n y) : 0 ≤ cp give hs take x y ∧ cp give hs take x y ≤ 1125899906842624 := by
 have hu : A.unlim = 1125899906842624 := rfl
 rcases hx with rfl | rfl | ⟨f, hf, rfl⟩ | ⟨k, hk, rfl⟩ | ⟨f, o, hf, ho, rfl⟩ <;>
 rcases hy with rfl | rfl | ⟨f', hf', rfl⟩ | ⟨k', hk', rfl⟩ | ⟨f', o', hf', ho', rfl⟩
 case inl.inr.inr.inl => rw [cpSH]; have := g0 f' hf'; omega
 case inr.inr.inl.inr.inr.inr.inr =>
  by_cases e : f = f'
  · subst e; rw [cpHP]; have := h0 f o' hf ho'; omega
  · rw [cp_zero give hs take (by simp [nH, nP, e])]; omega
 case inr.inr.inr.inl.inr.inl => rw [cpTE]; have := t0 k hk; omega
 case inr.inr.inr.inr.inr.inr.inr.inl =>
  by_cases e : okR f o k'
  · rw [cpPT _ _ _ _ _ _ e]; omega
  · rw [cpPTn _ _ _ _ _ _ e]; omega
 all_goals (rw [cp_zero give hs take (by simp [nS, nE, nH, nT, nP])]; omega)
theorem tabN_net : Net (A.netSize n) 2251799813685248 (tabN n give hs take) := by
 refine ⟨tabN_sq n give hs take, fun x y hx hy => ?_, fun x y hx hy => ?_⟩
 · obtain ⟨a, ha, rfl⟩ := node_of hx
   obtain ⟨b, hb, rfl⟩ := node_of hy
   rw [tabN_get n give hs take ha hb]; exact (cp_range g0 h0 t0 ha hb).1
 · obtain ⟨a, ha, rfl⟩ := node_of hx
   obtain ⟨b, hb, rfl⟩ := node_of hy
   rw [tabN_get n give hs take ha hb, tabN_get n give hs take hb ha]
   have r1 := (cp_range g0 h0 t0 ha hb).2
   have r2 := (cp_range g0 h0 t0 hb ha).2
   omega
open Classical in
theorem cut_val {v : Int} {X : Nd → Prop} (xs : X nS) (xe : ¬ X nE) (hv : v = sumN n (fun x => sumN n (fun y => if X x ∧ ¬ X y then cp give hs take x y else 0))) (hvu : v < 1125899906842624) : valS n give hs take (fun k => X (nT k)) ≤ v := by
 have nn : ∀ x y, Vd n x → Vd n y → 0 ≤ (if X x ∧ ¬ X y then cp give hs take x y else 0) := fun x y hx hy => by
  have := (cp_range g0 h0 t0 hx hy).1
  split <;> omega
 have nx : ∀ x, Vd n x → 0 ≤ sumN n (fun y => if X x ∧ ¬ X y then cp give hs take x y else 0) := fun x hx => sumN_nonneg (fun y hy => nn x y hx hy)
 rw [sumN_def] at hv
 have noPT : ∀ f o k, f < n → o < n → k < n → okR f o k → X (nP f o) → X (nT k) := fun f o k hf ho hk hok hp => by
  by_cases c : X (nT k)
  · exact c
  · exfalso
    have a1 := isum_one (f := fun f => isum (fun o => sumN n (fun y => if X (nP f o) ∧ ¬ X y then cp give hs take (nP f o) y else 0)) n) f hf (fun f hf => isum_nonneg (fun o ho => nx (nP f o) (vP hf ho)))
    have a2 := isum_one (f := fun o => sumN n (fun y => if X (nP f o) ∧ ¬ X y then cp give hs take (nP f o) y else 0)) o ho (fun o ho => nx (nP f o) (vP hf ho))
    have a3 := sumN_T (n := n) (φ := fun y => if X (nP f o) ∧ ¬ X y then cp give hs take (nP f o) y else 0) (fun y hy => nn (nP f o) y (vP hf ho) hy)
    have a4 := isum_one (f := fun k => if X (nP f o) ∧ ¬ X (nT k) then cp give hs take (nP f o) (nT k) else 0) k hk (fun k hk => nn (nP f o) (nT k) (vP hf ho) (vT hk))
    try simp only at a1 a2 a3 a4
    rw [if_pos ⟨hp, c⟩, cpPT _ _ _ _ _ _ hok] at a4
    have b1 := nx nS (vS n)
    have b2 := nx nE (vE n)
    have b3 := isum_nonneg (n := n) (fun f hf => nx (nH f) (vH hf))
    have b4 := isum_nonneg (n := n) (fun f hf => nx (nT f) (vT hf))
    have hu : A.unlim = 1125899906842624 := rfl
    omega
 have wS : isum (fun f => if X (nH f) then 0 else give f) n ≤ sumN n (fun y => if X nS ∧ ¬ X y then cp give hs take nS y else 0) := by
  refine Int.le_trans (isum_mono (fun f hfn => ?_)) (sumN_H (fun y hy => nn nS y (vS n) hy))
  by_cases c : X (nH f)
  · rw [if_pos c, if_neg (fun e => e.2 c)]; exact Int.le_refl _
  · rw [if_neg c, if_pos ⟨xs, c⟩, cpSH]; exact Int.le_refl _
 have wH : ∀ f, f < n → (if X (nH f) then isum (fun o => if (∃ k, k < n ∧ ¬ X (nT k) ∧ okR f o k) then hs f o else 0) n else 0) ≤ sumN n (fun y => if X (nH f) ∧ ¬ X y then cp give hs take (nH f) y else 0) := fun f hfn => by
  by_cases c : X (nH f)
  · rw [if_pos c]
    refine Int.le_trans (isum_mono (fun o hon => ?_)) (sumN_P (fun y hy => nn (nH f) y (vH hfn) hy) f hfn)
    by_cases d : ∃ k, k < n ∧ ¬ X (nT k) ∧ okR f o k
    · obtain ⟨k, hk, hk1, hk2⟩ := d
      rw [if_pos ⟨k, hk, hk1, hk2⟩, if_pos ⟨c, fun e => hk1 (noPT f o k hfn hon hk hk2 e)⟩, cpHP]; exact Int.le_refl _
    · rw [if_neg d]; exact nn _ _ (vH hfn) (vP hfn hon)
  · rw [if_neg c]; exact nx (nH f) (vH hfn)
 have wT : ∀ k, k < n → (if X (nT k) then take k else 0) ≤ sumN n (fun y => if X (nT k) ∧ ¬ X y then cp give hs take (nT k) y else 0) := fun k hkn => by
  refine Int.le_trans ?_ (sumN_E (fun y hy => nn (nT k) y (vT hkn) hy))
  by_cases c : X (nT k)
  · rw [if_pos c, if_pos ⟨c, xe⟩, cpTE]; exact Int.le_refl _
  · rw [if_neg c, if_neg (fun e => c e.1)]; exact Int.le_refl _
 have b2 := nx nE (vE n)
 have b5 := isum_nonneg (n := n) (fun f hf => isum_nonneg (n := n) (fun o ho => nx (nP f o) (vP hf ho)))
 have bT := isum_mono wT
 have bH := isum_mono wH
 have sp : isum (fun h => min (give h) (isum (fun o => if (∃ k, k < n ∧ ¬ X (nT k) ∧ okR h o k) then hs h o else 0) n)) n ≤ isum (fun f => if X (nH f) then 0 else give f) n + isum (fun f => if X (nH f) then isum (fun o => if (∃ k, k < n ∧ ¬ X (nT k) ∧ okR f o k) then hs f o else 0) n else 0) n := by
  rw [← isum_add]
  refine isum_mono (fun f hf => ?_)
  by_cases c : X (nH f)
  · rw [if_pos c, if_pos c]; omega
  · rw [if_neg c, if_neg c]; omega
 show isum (fun k => if X (nT k) then take k else 0) n + isum (fun h => min (give h) (isum (fun o => if (∃ k, k < n ∧ ¬ X (nT k) ∧ okR h o k) then hs h o else 0) n)) n ≤ v
 omega
open Classical in
theorem strong (D : Int) (D0 : 0 ≤ D) (Du : D < 1125899906842624) (hD : ∀ S : Nat → Prop, D ≤ valS n give hs take S) : ∃ y, Asg n give hs take y ∧ tot n y = D := by
 have l0 : (0 : Nat) < A.netSize n := ix_lt (vS n)
 have l1 : (1 : Nat) < A.netSize n := ix_lt (vE n)
 have hnet := tabN_net g0 h0 t0
 obtain ⟨v, v0, v1, v2, v3, v4⟩ := flow (N := A.netSize n) (M := 2251799813685248) (by omega) 0 1 l0 l1 (by omega) D D.toNat (tabN n give hs take) 0 hnet (Int.le_refl _) D0 (by omega)
 have hvD : v = D := by
  rcases v4 with v4 | ⟨X, hX⟩
  · omega
  · have hval := cut_value v3 l0 l1 hX
    rw [isum_nodes, sumN_congr (ψ := fun x => sumN n (fun y => if X (ix n x) ∧ ¬ X (ix n y) then cp give hs take x y else 0)) (fun x hx => by
      rw [isum_nodes]
      exact sumN_congr (fun y hy => by rw [tabN_get n give hs take hx hy]))] at hval
    have h1 := cut_val g0 h0 t0 (X := fun x => X (ix n x)) hX.1 hX.2.1 hval (by omega)
    have h2 := hD (fun k => X (ix n (nT k)))
    have h3 : valS n give hs take (fun k => X (ix n (nT k))) ≤ v := h1
    omega
 subst hvD
 generalize (A.flowG (0 : Nat) (1 : Nat) v v.toNat (tabN n give hs take) 0).1 = g at v3
 have low : ∀ x y, Vd n x → Vd n y → 0 ≤ A.get g (ix n x) (ix n y) := fun x y hx hy => v3.net.low _ _ (ix_lt hx) (ix_lt hy)
 have pair : ∀ x y, Vd n x → Vd n y → A.get g (ix n x) (ix n y) + A.get g (ix n y) (ix n x) = cp give hs take x y + cp give hs take y x := fun x y hx hy => by
  rw [v3.same _ _ (ix_lt hx) (ix_lt hy), tabN_get n give hs take hx hy, tabN_get n give hs take hy hx]
 have none : ∀ x y, Vd n x → Vd n y → cp give hs take x y = 0 → cp give hs take y x = 0 → A.get g (ix n x) (ix n y) = 0 := fun x y hx hy c1 c2 => by
  have h1 := pair x y hx hy
  have h2 := low x y hx hy
  have h3 := low y x hy hx
  omega
 have rowg : ∀ x, Vd n x → R (A.netSize n) g (ix n x) = sumN n (fun y => A.get g (ix n x) (ix n y)) := fun x hx => by unfold R; rw [isum_nodes]
 have row0 : ∀ x, Vd n x → R (A.netSize n) (tabN n give hs take) (ix n x) = sumN n (fun y => cp give hs take x y) := fun x hx => by
  unfold R
  rw [isum_nodes]
  exact sumN_congr (fun y hy => tabN_get n give hs take hx hy)
 have rowc : ∀ x, Vd n x → x ≠ nS → x ≠ nE → R (A.netSize n) g (ix n x) = sumN n (fun y => cp give hs take x y) := fun x hx a b => by
  rw [v3.row _ (ix_lt hx), if_neg (fun e => a (ix_inj hx (vS n) (by rw [ixS]; exact e))), if_neg (fun e => b (ix_inj hx (vE n) (by rw [ixE]; exact e))), row0 x hx]; omega
 obtain ⟨y, hy⟩ : ∃ y : Nat → Nat → Nat → Int, y = fun f o k => if f < n ∧ o < n ∧ k < n then A.get g (ix n (nT k)) (ix n (nP f o)) else 0 := ⟨_, rfl⟩
 have ye : ∀ f o k, f < n → o < n → k < n → y f o k = A.get g (ix n (nT k)) (ix n (nP f o)) := fun f o k a b c => by rw [hy]; simp only; rw [if_pos ⟨a, b, c⟩]
 have yn : ∀ f o k, ¬ (f < n ∧ o < n ∧ k < n) → y f o k = 0 := fun f o k c => by rw [hy]; simp only; rw [if_neg c]
 have yo : ∀ f o k, f < n → o < n → k < n → A.get g (ix n (nP f o)) (ix n (nT k)) + y f o k = cp give hs take (nP f o) (nT k) := fun f o k a b c => by
  rw [ye f o k a b c, pair _ _ (vP a b) (vT c), cp_zero give hs take (x := nT k) (y := nP f o) (by simp [nT, nP])]; omega
 have rowP : ∀ f o, f < n → o < n → A.get g (ix n (nP f o)) (ix n (nH f)) = isum (y f o) n := fun f o hf ho => by
  have h1 := rowc _ (vP hf ho) (by simp [nP, nS]) (by simp [nP, nE])
  rw [rowg _ (vP hf ho), sumN_def, sumN_def] at h1
  have z1 : isum (fun f' => A.get g (ix n (nP f o)) (ix n (nH f'))) n = A.get g (ix n (nP f o)) (ix n (nH f)) := isum_single (F := fun f' => A.get g (ix n (nP f o)) (ix n (nH f'))) hf (fun f' hf' hne => none _ _ (vP hf ho) (vH hf') (cp_zero give hs take (by simp [nP, nH])) (cp_zero give hs take (by simp [nP, nH, hne])))
  have z2 : isum (fun f' => isum (fun o' => A.get g (ix n (nP f o)) (ix n (nP f' o'))) n) n = 0 := isum_nil (fun f' hf' => isum_nil (fun o' ho' => none _ _ (vP hf ho) (vP hf' ho') (cp_zero give hs take (by simp [nP])) (cp_zero give hs take (by simp [nP]))))
  have z3 : isum (fun f' => cp give hs take (nP f o) (nH f')) n = 0 := isum_nil (fun f' hf' => cp_zero give hs take (by simp [nP, nH]))
  have z4 : isum (fun f' => isum (fun o' => cp give hs take (nP f o) (nP f' o')) n) n = 0 := isum_nil (fun f' hf' => isum_nil (fun o' ho' => cp_zero give hs take (by simp [nP])))
  have z5 : isum (fun k => A.get g (ix n (nP f o)) (ix n (nT k))) n + isum (y f o) n = isum (fun k => cp give hs take (nP f o) (nT k)) n := by
   rw [← isum_add]
   exact isum_congr (fun k hk => yo f o k hf ho hk)
  rw [z1, z2, z3, z4, none _ _ (vP hf ho) (vS n) (cp_zero give hs take (by simp [nP, nS])) (cp_zero give hs take (by simp [nP, nS])), none _ _ (vP hf ho) (vE n) (cp_zero give hs take (by simp [nP, nE])) (cp_zero give hs take (by simp [nP, nE])), cp_zero give hs take (x := nP f o) (y := nS) (by simp [nP, nS]), cp_zero give hs take (x := nP f o) (y := nE) (by simp [nP, nE])] at h1
  omega
 have pairHP : ∀ f o, f < n → o < n → A.get g (ix n (nH f)) (ix n (nP f o)) + isum (y f o) n = hs f o := fun f o hf ho => by
  rw [← rowP f o hf ho, pair _ _ (vH hf) (vP hf ho), cpHP, cp_zero give hs take (x := nP f o) (y := nH f) (by simp [nP, nH])]; omega
 have rowH : ∀ f, f < n → A.get g (ix n (nH f)) (ix n nS) = isum (fun o => isum (y f o) n) n := fun f hf => by
  have h1 := rowc _ (vH hf) (by simp [nH, nS]) (by simp [nH, nE])
  rw [rowg _ (vH hf), sumN_def, sumN_def] at h1
  have z1 : isum (fun f' => isum (fun o' => A.get g (ix n (nH f)) (ix n (nP f' o'))) n) n = isum (fun o' => A.get g (ix n (nH f)) (ix n (nP f o'))) n := isum_single (F := fun f' => isum (fun o' => A.get g (ix n (nH f)) (ix n (nP f' o'))) n) hf (fun f' hf' hne => isum_nil (fun o' ho' => none _ _ (vH hf) (vP hf' ho') (cp_zero give hs take (by simp [nP, nH]; exact fun e => hne e.symm)) (cp_zero give hs take (by simp [nP, nH]))))
  have z2 : isum (fun f' => isum (fun o' => cp give hs take (nH f) (nP f' o')) n) n = isum (fun o' => hs f o') n := by
   rw [isum_single (F := fun f' => isum (fun o' => cp give hs take (nH f) (nP f' o')) n) hf (fun f' hf' hne => isum_nil (fun o' ho' => cp_zero give hs take (by simp [nP, nH]; exact fun e => hne e.symm)))]
   exact isum_congr (fun o _ => cpHP give hs take f o)
  have z3 : isum (fun o' => A.get g (ix n (nH f)) (ix n (nP f o'))) n + isum (fun o => isum (y f o) n) n = isum (fun o' => hs f o') n := by
   rw [← isum_add]
   exact isum_congr (fun o ho => pairHP f o hf ho)
  have z4 : isum (fun f' => A.get g (ix n (nH f)) (ix n (nH f'))) n = 0 := isum_nil (fun f' hf' => none _ _ (vH hf) (vH hf') (cp_zero give hs take (by simp [nH])) (cp_zero give hs take (by simp [nH])))
  have z5 : isum (fun k => A.get g (ix n (nH f)) (ix n (nT k))) n = 0 := isum_nil (fun k hk => none _ _ (vH hf) (vT hk) (cp_zero give hs take (by simp [nH, nT])) (cp_zero give hs take (by simp [nH, nT])))
  have z6 : isum (fun f' => cp give hs take (nH f) (nH f')) n = 0 := isum_nil (fun f' hf' => cp_zero give hs take (by simp [nH]))
  have z7 : isum (fun k => cp give hs take (nH f) (nT k)) n = 0 := isum_nil (fun k hk => cp_zero give hs take (by simp [nH, nT]))
  rw [z1, z2, z4, z5, z6, z7, none _ _ (vH hf) (vE n) (cp_zero give hs take (by simp [nH, nE])) (cp_zero give hs take (by simp [nH, nE])), cp_zero give hs take (x := nH f) (y := nS) (by simp [nH, nS]), cp_zero give hs take (x := nH f) (y := nE) (by simp [nH, nE])] at h1
  omega
 have pairSH : ∀ f, f < n → A.get g (ix n nS) (ix n (nH f)) + isum (fun o => isum (y f o) n) n = give f := fun f hf => by
  rw [← rowH f hf, pair _ _ (vS n) (vH hf), cpSH, cp_zero give hs take (x := nH f) (y := nS) (by simp [nH, nS])]; omega
 refine ⟨y, ⟨fun f o k => ?_, fun f o k hne => ?_, fun f o hf ho => ?_, fun f hf => ?_, fun k hk => ?_⟩, ?_⟩
 · by_cases c : f < n ∧ o < n ∧ k < n
   · rw [ye f o k c.1 c.2.1 c.2.2]; exact low _ _ (vT c.2.2) (vP c.1 c.2.1)
   · rw [yn f o k c]; exact Int.le_refl _
 · by_cases c : f < n ∧ o < n ∧ k < n
   · refine ⟨c.1, c.2.1, c.2.2, ?_⟩
     by_cases d : okR f o k
     · exact d
     · exfalso
       have h1 := yo f o k c.1 c.2.1 c.2.2
       rw [cpPTn _ _ _ _ _ _ d] at h1
       have h2 := low _ _ (vP c.1 c.2.1) (vT c.2.2)
       have h3 := low _ _ (vT c.2.2) (vP c.1 c.2.1)
       rw [← ye f o k c.1 c.2.1 c.2.2] at h3
       omega
   · exact absurd (yn f o k c) hne
 · have := pairHP f o hf ho
   have := low _ _ (vH hf) (vP hf ho)
   omega
 · have := pairSH f hf
   have := low _ _ (vS n) (vH hf)
   omega
 · have h1 := rowc _ (vT hk) (by simp [nT, nS]) (by simp [nT, nE])
   rw [rowg _ (vT hk), sumN_def, sumN_def] at h1
   have z1 : isum (fun f => isum (fun o => A.get g (ix n (nT k)) (ix n (nP f o))) n) n = isum (fun f => isum (fun o => y f o k) n) n := isum_congr (fun f hf => isum_congr (fun o ho => (ye f o k hf ho hk).symm))
   have z2 : isum (fun f => isum (fun o => cp give hs take (nT k) (nP f o)) n) n = 0 := isum_nil (fun f hf => isum_nil (fun o ho => cp_zero give hs take (by simp [nT, nP])))
   have z3 : isum (fun f => A.get g (ix n (nT k)) (ix n (nH f))) n = 0 := isum_nil (fun f hf => none _ _ (vT hk) (vH hf) (cp_zero give hs take (by simp [nT, nH])) (cp_zero give hs take (by simp [nT, nH])))
   have z4 : isum (fun k' => A.get g (ix n (nT k)) (ix n (nT k'))) n = 0 := isum_nil (fun k' hk' => none _ _ (vT hk) (vT hk') (cp_zero give hs take (by simp [nT])) (cp_zero give hs take (by simp [nT])))
   have z5 : isum (fun f => cp give hs take (nT k) (nH f)) n = 0 := isum_nil (fun f hf => cp_zero give hs take (by simp [nT, nH]))
   have z6 : isum (fun k' => cp give hs take (nT k) (nT k')) n = 0 := isum_nil (fun k' hk' => cp_zero give hs take (by simp [nT]))
   rw [z1, z2, z3, z4, z5, z6, none _ _ (vT hk) (vS n) (cp_zero give hs take (by simp [nT, nS])) (cp_zero give hs take (by simp [nT, nS])), cpTE, cp_zero give hs take (x := nT k) (y := nS) (by simp [nT, nS])] at h1
   have := low _ _ (vT hk) (vE n)
   omega
 · have h1 : R (A.netSize n) g (ix n nS) = R (A.netSize n) (tabN n give hs take) (ix n nS) - v := by
    rw [v3.row _ (ix_lt (vS n)), if_pos (ixS n), if_neg (by rw [ixS]; omega)]; omega
   rw [rowg _ (vS n), row0 _ (vS n), sumN_def, sumN_def] at h1
   have z1 : isum (fun f => A.get g (ix n nS) (ix n (nH f))) n + tot n y = isum (fun f => cp give hs take nS (nH f)) n := by
    unfold tot
    rw [← isum_add]
    exact isum_congr (fun f hf => by rw [cpSH]; exact pairSH f hf)
   have z2 : isum (fun k => A.get g (ix n nS) (ix n (nT k))) n = 0 := isum_nil (fun k hk => none _ _ (vS n) (vT hk) (cp_zero give hs take (by simp [nS, nT])) (cp_zero give hs take (by simp [nS, nT])))
   have z3 : isum (fun f => isum (fun o => A.get g (ix n nS) (ix n (nP f o))) n) n = 0 := isum_nil (fun f hf => isum_nil (fun o ho => none _ _ (vS n) (vP hf ho) (cp_zero give hs take (by simp [nS, nP])) (cp_zero give hs take (by simp [nS, nP]))))
   have z4 : isum (fun k => cp give hs take nS (nT k)) n = 0 := isum_nil (fun k hk => cp_zero give hs take (by simp [nS, nT]))
   have z5 : isum (fun f => isum (fun o => cp give hs take nS (nP f o)) n) n = 0 := isum_nil (fun f hf => isum_nil (fun o ho => cp_zero give hs take (by simp [nS, nP])))
   rw [z2, z3, z4, z5, none _ _ (vS n) (vS n) (cp_zero give hs take (by simp [nS])) (cp_zero give hs take (by simp [nS])), none _ _ (vS n) (vE n) (cp_zero give hs take (by simp [nS, nE])) (cp_zero give hs take (by simp [nS, nE])), cp_zero give hs take (x := nS) (y := nS) (by simp [nS]), cp_zero give hs take (x := nS) (y := nE) (by simp [nS, nE])] at h1
   omega
end
def giveAt (n : Nat) (has q : List Int) (P : Nat → Nat → Nat → Int) (h : Nat) : Int := max 0 (rd has h - rd q h) - isum (fun o => isum (P h o) n) n
def hsAt (n : Nat) (t : List (List Int)) (P : Nat → Nat → Nat → Int) (h o : Nat) : Int := A.get t h o - isum (P h o) n
def takeAt (n : Nat) (has q : List Int) (P : Nat → Nat → Nat → Int) (k : Nat) : Int := max 0 (rd q k - rd has k) - isum (fun f => isum (fun o => P f o k) n) n
def overAll (n : Nat) (has q : List Int) : Int := isum (fun h => max 0 (rd has h - rd q h)) n
theorem bump_give' (M : Nat → Nat → Nat → Int) {n h o0 kk : Nat} (x : Int) (hk : kk < n) (ho : o0 < n) (d : Nat) : isum (fun o => isum (bump M h o0 kk x d o) n) n = isum (fun o => isum (M d o) n) n + (if d = h then x else 0) := by
 rw [isum_congr (fun o _ => bump_row M x hk d o), isum_add]
 congr 1
 by_cases c : d = h
 · rw [if_pos c, isum_congr (g := fun o => if o = o0 then x else 0) (fun o _ => by simp [c]), isum_pt, if_pos ho]
 · rw [if_neg c, isum_congr (g := fun _ => 0) (fun o _ => by rw [if_neg (fun e => c e.1)]), isum_zero]
theorem bump_tot (M : Nat → Nat → Nat → Int) {n h o0 kk : Nat} (x : Int) (hh : h < n) (hk : kk < n) (ho : o0 < n) : tot n (bump M h o0 kk x) = tot n M + x := by
 unfold tot
 rw [isum_congr (fun d _ => bump_give' M x hk ho d), isum_add, isum_pt, if_pos hh]
theorem lex_ind (P : Nat → Nat → Nat → Prop) (h : ∀ f o k, (∀ f' o' k', lexlt f' o' k' f o k → P f' o' k') → P f o k) : ∀ f o k, P f o k := by
 intro f
 induction f using Nat.strongRecOn with
 | ind f ihf =>
  intro o
  induction o using Nat.strongRecOn with
  | ind o iho =>
   intro k
   induction k using Nat.strongRecOn with
   | ind k ihk =>
    refine h f o k (fun f' o' k' hl => ?_)
    rcases hl with hl | ⟨rfl, hl | ⟨rfl, hl⟩⟩
    · exact ihf f' hl o' k'
    · exact iho o' hl k'
    · exact ihk k' hl
theorem asg_rest {n : Nat} {has q : List Int} {t : List (List Int)} {P B : Nat → Nat → Nat → Int} (hB : Feas n has q t B) (hPB : ∀ f o k, P f o k ≤ B f o k) (hP0 : ∀ f o k, 0 ≤ P f o k) : Asg n (giveAt n has q P) (hsAt n t P) (takeAt n has q P) (fun f o k => B f o k - P f o k) := by
 have srow : ∀ f o, isum ((fun f o k => B f o k - P f o k) f o) n = isum (B f o) n - isum (P f o) n := fun f o => isum_sub _ _ _
 refine ⟨fun f o k => by have := hPB f o k; omega, fun f o k hne => ?_, fun f o a b => ?_, fun f a => ?_, fun k a => ?_⟩
 · have hb : B f o k ≠ 0 := fun e => hne (by have := hPB f o k; have := hP0 f o k; omega)
   obtain ⟨a, b, c, d⟩ := hB.mz f o k hb
   exact ⟨a, b, c, d.2.2.1, d.2.2.2.1⟩
 · rw [srow]
   have := hB.mt f o a b
   unfold hsAt
   omega
 · rw [isum_congr (fun o _ => srow f o), isum_sub]
   unfold giveAt
   by_cases c : overB has q f
   · have := hB.mg f a c
     omega
   · have := hB.gg0 f c
     omega
 · have e : isum (fun f => isum (fun o => B f o k - P f o k) n) n = isum (fun f => isum (fun o => B f o k) n) n - isum (fun f => isum (fun o => P f o k) n) n := by
    rw [isum_congr (fun f _ => isum_sub (fun o => B f o k) (fun o => P f o k) n), isum_sub]
   rw [e]
   unfold takeAt
   by_cases c : overB has q k
   · have := hB.k0 k c
     omega
   · have := hB.mtk k a c
     omega
theorem tot_sub {n : Nat} (B P : Nat → Nat → Nat → Int) : tot n (fun f o k => B f o k - P f o k) = tot n B - tot n P := by
 unfold tot
 have e : ∀ f, isum (fun o => isum ((fun f o k => B f o k - P f o k) f o) n) n = isum (fun o => isum (B f o) n) n - isum (fun o => isum (P f o) n) n := fun f => by
  rw [isum_congr (fun o _ => isum_sub (B f o) (P f o) n), isum_sub]
 rw [isum_congr (fun f _ => e f), isum_sub]
theorem tot_feas {n : Nat} {has q : List Int} {t : List (List Int)} {B : Nat → Nat → Nat → Int} (hB : Feas n has q t B) : tot n B = overAll n has q := by
 unfold tot overAll
 refine isum_congr (fun f hf' => ?_)
 by_cases c : overB has q f
 · rw [hB.mg f hf' c]; unfold overB at c; omega
 · rw [hB.gg0 f c]; unfold overB at c; omega
theorem rest_le {n : Nat} {has q : List Int} {t : List (List Int)} {P B : Nat → Nat → Nat → Int} (hB : Feas n has q t B) (hPB : ∀ f o k, P f o k ≤ B f o k) (hP0 : ∀ f o k, 0 ≤ P f o k) (S : Nat → Prop) : overAll n has q - tot n P ≤ valS n (giveAt n has q P) (hsAt n t P) (takeAt n has q P) S := by
 have h1 := weak (asg_rest hB hPB hP0) S
 rw [tot_sub, tot_feas hB] at h1
 exact h1
section
variable {t : List (List Int)} {q : List Int} (hf : A.fitsT t q = true) (hsm : ∀ i j : Nat, i < t.length → j < t.length → A.get t i j ≤ 1000)
include hf hsm
theorem base_range (P : Nat → Nat → Nat → Int) (hP0 : ∀ f o k, 0 ≤ P f o k) (hg : ∀ h, h < t.length → 0 ≤ giveAt t.length (A.heldT t) q P h) (hh : ∀ h o, h < t.length → o < t.length → 0 ≤ hsAt t.length t P h o) (ht : ∀ k, k < t.length → 0 ≤ takeAt t.length (A.heldT t) q P k) :
 (∀ h, h < t.length → 0 ≤ giveAt t.length (A.heldT t) q P h ∧ giveAt t.length (A.heldT t) q P h ≤ 1000000000) ∧ (∀ h o, h < t.length → o < t.length → 0 ≤ hsAt t.length t P h o ∧ hsAt t.length t P h o ≤ 1000000000) ∧ (∀ k, k < t.length → 0 ≤ takeAt t.length (A.heldT t) q P k ∧ takeAt t.length (A.heldT t) q P k ≤ 10000000000000) := by
 have hv := fit_valid hf
 have h12 := (A.valid_sq hv).1
 refine ⟨fun h hh' => ⟨hg h hh', ?_⟩, fun h o a b => ⟨hh h o a b, ?_⟩, fun k hk => ⟨ht k hk, ?_⟩⟩
 · have b := A.quota_bound hf h (by omega) (by omega)
   have c : isum (fun j => A.get t h j) t.length ≤ t.length * 1000 := by
    have e2 : ∀ m : Nat, isum (fun _ => 1000) m = (m : Int) * 1000 := by
     intro m
     induction m with
     | zero => rfl
     | succ m ih => rw [isum, ih]; push_cast; omega
    have := isum_mono (f := fun j => A.get t h j) (g := fun _ => 1000) (n := t.length) (fun j hj => hsm h j hh' hj)
    rw [e2] at this
    exact this
   have a : rd (A.heldT t) h ≤ t.length * 1000 := by
    have hG := A.valid_good hv
    rw [A.rd_held t h hh', wsum_full _ (by rw [sq_of hv h hh']; omega) (fun i hi => g_bound hG h12 hh' (by rw [← sq_of hv h hh']; exact hi)), sq_of hv h hh']
    exact c
   have z : 0 ≤ isum (fun o => isum (P h o) t.length) t.length := isum_nonneg (fun o _ => isum_nonneg (fun k _ => hP0 h o k))
   unfold giveAt
   omega
 · have := hsm h o a b
   have z : 0 ≤ isum (P h o) t.length := isum_nonneg (fun k _ => hP0 h o k)
   unfold hsAt
   omega
 · have b := A.quota_bound hf k (by omega) (by omega)
   have a := A.held_bound hv k (by omega) (by omega)
   have z : 0 ≤ isum (fun f => isum (fun o => P f o k) t.length) t.length := isum_nonneg (fun f _ => isum_nonneg (fun o _ => hP0 f o k))
   unfold takeAt
   omega
theorem feas_of {P y : Nat → Nat → Nat → Int} (hP0 : ∀ f o k, 0 ≤ P f o k) (hPz : ∀ f o k, P f o k ≠ 0 → f < t.length ∧ o < t.length ∧ k < t.length ∧ okM (A.heldT t) q f o k) (hy : Asg t.length (giveAt t.length (A.heldT t) q P) (hsAt t.length t P) (takeAt t.length (A.heldT t) q P) y)
 (htot : tot t.length P + tot t.length y = overAll t.length (A.heldT t) q) : Feas t.length (A.heldT t) q t (fun f o k => P f o k + y f o k) := by
 have hv := fit_valid hf
 have sumrow : ∀ f o, isum ((fun f o k => P f o k + y f o k) f o) t.length = isum (P f o) t.length + isum (y f o) t.length := fun f o => isum_add _ _ _
 have sumg : ∀ f, isum (fun o => isum ((fun f o k => P f o k + y f o k) f o) t.length) t.length = isum (fun o => isum (P f o) t.length) t.length + isum (fun o => isum (y f o) t.length) t.length := fun f => by
  rw [isum_congr (fun o _ => sumrow f o), isum_add]
 have sumk : ∀ k, isum (fun f => isum (fun o => P f o k + y f o k) t.length) t.length = isum (fun f => isum (fun o => P f o k) t.length) t.length + isum (fun f => isum (fun o => y f o k) t.length) t.length := fun k => by
  rw [isum_congr (fun f _ => isum_add (fun o => P f o k) (fun o => y f o k) t.length), isum_add]
 have Pover : ∀ f, f < t.length → ¬ overB (A.heldT t) q f → isum (fun o => isum (P f o) t.length) t.length = 0 := fun f _ c => isum_nil (fun o _ => isum_nil (fun k _ => by
   by_cases e : P f o k = 0
   · exact e
   · exact absurd (hPz f o k e).2.2.2.1 c))
 have le : ∀ f, f < t.length → isum (fun o => isum (P f o) t.length) t.length + isum (fun o => isum (y f o) t.length) t.length ≤ max 0 (rd (A.heldT t) f - rd q f) := fun f hf' => by
  have := hy.yg f hf'
  unfold giveAt at this
  omega
 have yz : ∀ f o k, y f o k ≠ 0 → f < t.length ∧ o < t.length ∧ k < t.length ∧ okM (A.heldT t) q f o k := fun f o k hne => by
  obtain ⟨a, b, c, d1, d2⟩ := hy.yz f o k hne
  have y0 := hy.y0 f o k
  have s1 := isum_one (f := y f o) k c (fun k _ => hy.y0 f o k)
  have s2 := isum_one (f := fun o => isum (y f o) t.length) o b (fun o _ => isum_nonneg (fun k _ => hy.y0 f o k))
  have s3 := isum_one (f := fun o => y f o k) (n := t.length) o b (fun o _ => hy.y0 f o k)
  have s4 := isum_one (f := fun f => isum (fun o => y f o k) t.length) f a (fun f _ => isum_nonneg (fun o _ => hy.y0 f o k))
  try simp only at s2 s3 s4
  have g := le f a
  have gP : 0 ≤ isum (fun o => isum (P f o) t.length) t.length := isum_nonneg (fun o _ => isum_nonneg (fun k _ => hP0 f o k))
  have tk := hy.yt k c
  have tP : 0 ≤ isum (fun f => isum (fun o => P f o k) t.length) t.length := isum_nonneg (fun f _ => isum_nonneg (fun o _ => hP0 f o k))
  have hh := hy.yh f o a b
  unfold takeAt at tk
  unfold hsAt at hh
  have hPr : 0 ≤ isum (P f o) t.length := isum_nonneg (fun k _ => hP0 f o k)
  refine ⟨a, b, c, by unfold overB; omega, fun e => ?_, d1, d2, by unfold overB; omega⟩
  subst e
  have := valid_diag hv o a
  omega
 have eqs : ∀ f, f < t.length → isum (fun o => isum (P f o) t.length) t.length + isum (fun o => isum (y f o) t.length) t.length = max 0 (rd (A.heldT t) f - rd q f) := fun f hf' => by
  have e1 : isum (fun f => max 0 (rd (A.heldT t) f - rd q f) - (isum (fun o => isum (P f o) t.length) t.length + isum (fun o => isum (y f o) t.length) t.length)) t.length = 0 := by
   rw [isum_sub, isum_add]
   unfold tot overAll at htot
   omega
  have e2 := isum_one (f := fun f => max 0 (rd (A.heldT t) f - rd q f) - (isum (fun o => isum (P f o) t.length) t.length + isum (fun o => isum (y f o) t.length) t.length)) f hf' (fun i hi => by have := le i hi; omega)
  have := le f hf'
  try simp only at e2
  omega
 refine ⟨fun f o k => by have := hP0 f o k; have := hy.y0 f o k; omega, fun f o k hne => ?_, fun f o a b => ?_, fun f a c => ?_, fun k a c => ?_⟩
 · by_cases e : P f o k = 0
   · exact yz f o k (fun e' => hne (by omega))
   · exact hPz f o k e
 · rw [sumrow]
   have := hy.yh f o a b
   unfold hsAt at this
   omega
 · rw [sumg, eqs f a]
   unfold overB at c
   omega
 · rw [sumk]
   have := hy.yt k a
   unfold takeAt at this
   unfold overB at c
   omega
theorem full_val (hs : (A.settleOut t q).2 ≠ 0) (Z : Nat → Nat → Nat → Int) (hZ : ∀ f o k, Z f o k = 0) : ∃ S, valS t.length (giveAt t.length (A.heldT t) q Z) (hsAt t.length t Z) (takeAt t.length (A.heldT t) q Z) S < overAll t.length (A.heldT t) q := by
 have hv := fit_valid hf
 have h12 := (A.valid_sq hv).1
 have z1 : ∀ h : Nat, isum (fun o => isum (Z h o) t.length) t.length = 0 := fun h => isum_nil (fun o _ => isum_nil (fun k _ => hZ _ _ _))
 have z2 : ∀ h o : Nat, isum (Z h o) t.length = 0 := fun h o => isum_nil (fun k _ => hZ _ _ _)
 have z3 : ∀ k : Nat, isum (fun f => isum (fun o => Z f o k) t.length) t.length = 0 := fun k => isum_nil (fun f _ => isum_nil (fun o _ => hZ _ _ _))
 obtain ⟨r1, r2, r3⟩ := base_range hf hsm Z (fun f o k => by rw [hZ]; exact Int.le_refl _) (fun h _ => by unfold giveAt; rw [z1]; omega) (fun h o a b => by
   unfold hsAt
   rw [z2]
   have := (A.valid_good hv).2 h o (by omega) (by omega) (by omega) (by omega)
   omega) (fun k _ => by unfold takeAt; rw [z3]; omega)
 by_cases c : ∃ S, valS t.length (giveAt t.length (A.heldT t) q Z) (hsAt t.length t Z) (takeAt t.length (A.heldT t) q Z) S < overAll t.length (A.heldT t) q
 · exact c
 · exfalso
   apply hs
   have ho0 : 0 ≤ overAll t.length (A.heldT t) q := isum_nonneg (fun h _ => by omega)
   have hob : overAll t.length (A.heldT t) q ≤ t.length * 1000000000 := by
    have e2 : ∀ m : Nat, isum (fun _ => 1000000000) m = (m : Int) * 1000000000 := by
     intro m
     induction m with
     | zero => rfl
     | succ m ih => rw [isum, ih]; push_cast; omega
    have := isum_mono (f := fun h => max 0 (rd (A.heldT t) h - rd q h)) (g := fun _ => 1000000000) (n := t.length) (fun h hh => by
      have := (r1 h hh).2
      unfold giveAt at this
      rw [z1] at this
      omega)
    rw [e2] at this
    exact this
   obtain ⟨y, hy, ht⟩ := strong r1 r2 r3 (overAll t.length (A.heldT t) q) ho0 (by omega) (fun S => by
     by_cases d : valS t.length (giveAt t.length (A.heldT t) q Z) (hsAt t.length t Z) (takeAt t.length (A.heldT t) q Z) S < overAll t.length (A.heldT t) q
     · exact absurd ⟨S, d⟩ c
     · omega)
   have hF := feas_of hf hsm (P := Z) (fun f o k => by rw [hZ]; exact Int.le_refl _) (fun f o k e => absurd (hZ f o k) e) hy (by
     have : tot t.length Z = 0 := isum_nil (fun f _ => z1 f)
     rw [this, ht]; omega)
   refine relief_full hf (fun f o k => Z f o k + y f o k) (fun f o k _ _ _ => hF.m0 f o k) (fun f o k _ _ _ e => (hF.mz f o k e).2.2.2) (fun f o k a b d => ?_) (fun f o a b => hF.mt f o a b) (fun f a b => hF.mg f a b) (fun k a b => hF.mtk k a b)
   have s1 := isum_one (f := (fun f o k => Z f o k + y f o k) f o) k d (fun k _ => hF.m0 f o k)
   have s2 := hF.mt f o a b
   have s3 := hsm f o a b
   try simp only at s1 s2
   omega
instance (f' o' k' f o k : Nat) : Decidable (lexlt f' o' k' f o k) := by unfold lexlt; infer_instance
theorem over_bound (Z : Nat → Nat → Nat → Int) (hZ : ∀ f o k, Z f o k = 0) : overAll t.length (A.heldT t) q ≤ 12000000000 ∧ 0 ≤ overAll t.length (A.heldT t) q := by
 have hv := fit_valid hf
 have h12 := (A.valid_sq hv).1
 have z1 : ∀ h : Nat, isum (fun o => isum (Z h o) t.length) t.length = 0 := fun h => isum_nil (fun o _ => isum_nil (fun k _ => hZ _ _ _))
 have z2 : ∀ h o : Nat, isum (Z h o) t.length = 0 := fun h o => isum_nil (fun k _ => hZ _ _ _)
 have z3 : ∀ k : Nat, isum (fun f => isum (fun o => Z f o k) t.length) t.length = 0 := fun k => isum_nil (fun f _ => isum_nil (fun o _ => hZ _ _ _))
 obtain ⟨r1, r2, r3⟩ := base_range hf hsm Z (fun f o k => by rw [hZ]; exact Int.le_refl _) (fun h _ => by unfold giveAt; rw [z1]; omega) (fun h o a b => by
   unfold hsAt
   rw [z2]
   have := (A.valid_good hv).2 h o (by omega) (by omega) (by omega) (by omega)
   omega) (fun k _ => by unfold takeAt; rw [z3]; omega)
 have ho0 : 0 ≤ overAll t.length (A.heldT t) q := isum_nonneg (fun h _ => by omega)
 have e2 : ∀ m : Nat, isum (fun _ => 1000000000) m = (m : Int) * 1000000000 := by
  intro m
  induction m with
  | zero => rfl
  | succ m ih => rw [isum, ih]; push_cast; omega
 have := isum_mono (f := fun h => max 0 (rd (A.heldT t) h - rd q h)) (g := fun _ => 1000000000) (n := t.length) (fun h hh => by
   have := (r1 h hh).2
   unfold giveAt at this
   rw [z1] at this
   omega)
 rw [e2] at this
 refine ⟨?_, ho0⟩
 unfold overAll
 omega
theorem too_much {B P : Nat → Nat → Nat → Int} (hB : Feas t.length (A.heldT t) q t B) (hmax : ∀ M, Feas t.length (A.heldT t) q t M → (∀ f o k, M f o k ≤ A.unlim) → ∀ f o k, f < t.length → o < t.length → k < t.length → okM (A.heldT t) q f o k → (∀ f' o' k', lexlt f' o' k' f o k → M f' o' k' = B f' o' k') → M f o k ≤ B f o k)
 {h o k : Nat} (hh : h < t.length) (ho : o < t.length) (hk : k < t.length) (hok : okR h o k) (hoh : o ≠ h) (hP : P = fun f' o' k' => if lexlt f' o' k' h o k then B f' o' k' else 0) (x : Int) (hx : B h o k < x)
 (x1 : x ≤ giveAt t.length (A.heldT t) q P h) (x2 : x ≤ hsAt t.length t P h o) (x3 : x ≤ takeAt t.length (A.heldT t) q P k) :
 ∃ S, valS t.length (giveAt t.length (A.heldT t) q (bump P h o k x)) (hsAt t.length t (bump P h o k x)) (takeAt t.length (A.heldT t) q (bump P h o k x)) S < overAll t.length (A.heldT t) q - tot t.length P - x := by
 have hob := over_bound hf hsm (fun _ _ _ => 0) (fun _ _ _ => rfl)
 have hB0 := hB.m0
 have x0 : 0 < x := by have := hB0 h o k; omega
 have hPe : ∀ f' o' k', P f' o' k' = if lexlt f' o' k' h o k then B f' o' k' else 0 := fun f' o' k' => by rw [hP]
 have hP0 : ∀ f' o' k', 0 ≤ P f' o' k' := fun f' o' k' => by
  rw [hPe]
  have := hB0 f' o' k'
  split <;> omega
 have hPB : ∀ f' o' k', P f' o' k' ≤ B f' o' k' := fun f' o' k' => by
  rw [hPe]
  have := hB0 f' o' k'
  split <;> omega
 have hA := asg_rest hB hPB hP0
 have r0 : ∀ f o, 0 ≤ isum (fun k => B f o k - P f o k) t.length := fun f o => isum_nonneg (fun k _ => by have := hPB f o k; omega)
 have ga : ∀ d, d < t.length → 0 ≤ giveAt t.length (A.heldT t) q P d := fun d hd => by
  have := hA.yg d hd
  have := isum_nonneg (n := t.length) (f := fun o => isum (fun k => B d o k - P d o k) t.length) (fun o _ => r0 d o)
  omega
 have ha : ∀ d o, d < t.length → o < t.length → 0 ≤ hsAt t.length t P d o := fun d o hd ho => by
  have := hA.yh d o hd ho
  have := r0 d o
  omega
 have ta : ∀ d, d < t.length → 0 ≤ takeAt t.length (A.heldT t) q P d := fun d hd => by
  have := hA.yt d hd
  have := isum_nonneg (n := t.length) (f := fun f => isum (fun o => B f o d - P f o d) t.length) (fun f _ => isum_nonneg (fun o _ => by have := hPB f o d; omega))
  omega
 obtain ⟨P', hP'⟩ : ∃ P', P' = bump P h o k x := ⟨_, rfl⟩
 rw [← hP']
 have eg : ∀ d, giveAt t.length (A.heldT t) q P' d = giveAt t.length (A.heldT t) q P d - (if d = h then x else 0) := fun d => by
  unfold giveAt
  rw [hP', bump_give' P x hk ho d]; omega
 have eh : ∀ d o', hsAt t.length t P' d o' = hsAt t.length t P d o' - (if d = h ∧ o' = o then x else 0) := fun d o' => by
  unfold hsAt
  rw [hP', bump_row P x hk d o']; omega
 have et : ∀ d, takeAt t.length (A.heldT t) q P' d = takeAt t.length (A.heldT t) q P d - (if d = k then x else 0) := fun d => by
  unfold takeAt
  rw [hP', bump_take P x hh ho d]; omega
 have eo : tot t.length P' = tot t.length P + x := by rw [hP', bump_tot P x hh hk ho]
 have bp : ∀ f' o' k', P' f' o' k' = P f' o' k' + (if f' = h ∧ o' = o ∧ k' = k then x else 0) := fun f' o' k' => by
  rw [hP']
  unfold bump
  split <;> omega
 have hP'0 : ∀ f' o' k', 0 ≤ P' f' o' k' := fun f' o' k' => by
  rw [bp]
  have := hP0 f' o' k'
  split <;> omega
 have g1 : ∀ d, d < t.length → 0 ≤ giveAt t.length (A.heldT t) q P' d := fun d hd => by
  rw [eg]
  by_cases c : d = h
  · subst c; rw [if_pos rfl]; omega
  · rw [if_neg c]; have := ga d hd; omega
 have g2 : ∀ d o', d < t.length → o' < t.length → 0 ≤ hsAt t.length t P' d o' := fun d o' hd ho' => by
  rw [eh]
  by_cases c : d = h ∧ o' = o
  · obtain ⟨rfl, rfl⟩ := c; rw [if_pos ⟨rfl, rfl⟩]; omega
  · rw [if_neg c]; have := ha d o' hd ho'; omega
 have g3 : ∀ d, d < t.length → 0 ≤ takeAt t.length (A.heldT t) q P' d := fun d hd => by
  rw [et]
  by_cases c : d = k
  · subst c; rw [if_pos rfl]; omega
  · rw [if_neg c]; have := ta d hd; omega
 have sumg : overAll t.length (A.heldT t) q - tot t.length P' = isum (giveAt t.length (A.heldT t) q P') t.length := by
  unfold overAll tot
  rw [← isum_sub]
  exact isum_congr (fun d _ => rfl)
 have D0 : 0 ≤ overAll t.length (A.heldT t) q - tot t.length P' := by
  rw [sumg]
  exact isum_nonneg g1
 have tP0 : 0 ≤ tot t.length P' := isum_nonneg (fun f _ => isum_nonneg (fun o _ => isum_nonneg (fun k _ => hP'0 f o k)))
 obtain ⟨q1, q2, q3⟩ := base_range hf hsm P' hP'0 g1 g2 g3
 by_cases hc : ∃ S, valS t.length (giveAt t.length (A.heldT t) q P') (hsAt t.length t P') (takeAt t.length (A.heldT t) q P') S < overAll t.length (A.heldT t) q - tot t.length P - x
 · exact hc
 · exfalso
   obtain ⟨y, hy, hyt⟩ := strong q1 q2 q3 (overAll t.length (A.heldT t) q - tot t.length P') D0 (by omega) (fun S => by
     by_cases c : overAll t.length (A.heldT t) q - tot t.length P' ≤ valS t.length (giveAt t.length (A.heldT t) q P') (hsAt t.length t P') (takeAt t.length (A.heldT t) q P') S
     · exact c
     · exact absurd ⟨S, by omega⟩ hc)
   have hF := feas_of hf hsm (P := P') hP'0 (fun f' o' k' hne => by
     by_cases c : f' = h ∧ o' = o ∧ k' = k
     · obtain ⟨rfl, rfl, rfl⟩ := c
       have s1 : 0 ≤ isum (fun o => isum (P f' o) t.length) t.length := isum_nonneg (fun o _ => isum_nonneg (fun k _ => hP0 f' o k))
       have s2 : 0 ≤ isum (fun f => isum (fun o => P f o k') t.length) t.length := isum_nonneg (fun f _ => isum_nonneg (fun o _ => hP0 f o k'))
       unfold giveAt at x1
       unfold takeAt at x3
       exact ⟨hh, ho, hk, by unfold overB; omega, hoh, hok.1, hok.2, by unfold overB; omega⟩
     · rw [bp, if_neg c, hPe] at hne
       refine hB.mz f' o' k' (fun e => hne ?_)
       rw [e]
       split <;> rfl) hy (by omega)
   have hM0 := hF.m0
   have hMu : ∀ f o k, P' f o k + y f o k ≤ A.unlim := fun f o k => by
    have hu : A.unlim = 1125899906842624 := rfl
    by_cases c : P' f o k + y f o k = 0
    · omega
    · obtain ⟨a, b, d, _⟩ := hF.mz f o k c
      have s1 := isum_one (f := (fun f o k => P' f o k + y f o k) f o) k d (fun k _ => hF.m0 f o k)
      have s2 := hF.mt f o a b
      have s3 := hsm f o a b
      try simp only at s1 s2
      omega
   have hBz := hB.mz
   have heq : ∀ f' o' k', lexlt f' o' k' h o k → P' f' o' k' + y f' o' k' = B f' o' k' := by
    refine lex_ind (P := fun f' o' k' => lexlt f' o' k' h o k → P' f' o' k' + y f' o' k' = B f' o' k') (fun f' o' k' ih hl => ?_)
    have hp : P' f' o' k' = B f' o' k' := by
     rw [bp, hPe, if_pos hl, if_neg (fun e => by unfold lexlt at hl; omega)]; omega
    have y0 := hy.y0 f' o' k'
    by_cases c : P' f' o' k' + y f' o' k' = 0
    · have := hB0 f' o' k'; omega
    · obtain ⟨a, b, d, e⟩ := hF.mz f' o' k' c
      have := hmax _ hF hMu f' o' k' a b d e (fun f'' o'' k'' hl2 => ih f'' o'' k'' hl2 (by unfold lexlt at *; omega))
      try simp only at this
      omega
   have hp : P' h o k = x := by
    rw [bp, hPe, if_neg (fun e => by unfold lexlt at e; omega), if_pos ⟨rfl, rfl, rfl⟩]; omega
   have y0 := hy.y0 h o k
   obtain ⟨a, b, d, e⟩ := hF.mz h o k (by rw [hp]; omega)
   have := hmax _ hF hMu h o k a b d e heq
   try simp only at this
   omega
end
end Go.Proofs.Ytdljbmgknhbceaa.P
end
section
namespace Go.Proofs.Ytdljbmgknhbceaa.Q
open Go.RowKit Go.Proofs.YtdljbmgknhbceaaW.PrintWords Go.Proofs.YtdljbmgknhbceaaW.PrintLast Go.Proofs.YtdljbmgknhbceaaW.PrintMore
attribute [local go_sem] max2_int min2_int max_two min_two max_three min_three max_four min_four
def kinkeepref35_relief_open.l0 : Nat → Int → Int → Int → Int → List Int → List (List Int) → List Int → Option (Bool)
 | 0, _, _, _, _, _, _, _ => none
 | k + 1, x1, x2, x3, x9, x511000, x511001, x511002 => if x9 < (x511000.length : Int) then (if x9 = x2 then (kinkeepref35_relief_open.l0 k x1 x2 x3 (wrap64 (x9 + 1)) x511000 x511001 x511002) else (if x9 = x3 then (kinkeepref35_relief_open.l0 k x1 x2 x3 (wrap64 (x9 + 1)) x511000 x511001 x511002) else (if 0 ≤ x9 then (if (Go.bits .and .i64 (shr .i64 x1 x9) 1) = 0 then (some true) else (kinkeepref35_relief_open.l0 k x1 x2 x3 (wrap64 (x9 + 1)) x511000 x511001 x511002)) else (none)))) else (some false)
def kinkeepref35_relief_open.f (k : Nat) (l0_0 : List Int) (l0_1 : List (List Int)) (l0_2 : List Int) (a1 : Int) (a2 : Int) (a3 : Int) : Option (Bool) := kinkeepref35_relief_open.l0 k a1 a2 a3 0 l0_0 l0_1 l0_2
theorem kinkeepref35_relief_open.mono_l : ∀ k, (∀ y0 y1 y2 y3 y4 y5 y6, LeO (kinkeepref35_relief_open.l0 k y0 y1 y2 y3 y4 y5 y6) (kinkeepref35_relief_open.l0 (k + 1) y0 y1 y2 y3 y4 y5 y6))
 | 0 => fun _ _ _ _ _ _ _ r h => by simp [kinkeepref35_relief_open.l0] at h
 | k + 1 => by
  have ih0 := kinkeepref35_relief_open.mono_l k
  · intro y0 y1 y2 y3 y4 y5 y6
    unfold kinkeepref35_relief_open.l0
    repeat' first
    | (with_reducible exact ih0 _ _ _ _ _ _ _)
    | (with_reducible exact LeO.refl _)
    | (with_reducible exact LeO.none _)
    | (with_reducible refine LeO.ite ?_ ?_)
    | (with_reducible refine LeO.bind ?_ (fun _ => ?_))
    | exact ih0 _ _ _ _ _ _ _
    | exact LeO.none _
    | refine LeO.ite ?_ ?_
    | refine LeO.bind ?_ (fun _ => ?_)
theorem kinkeepref35_relief_open.mono : ∀ a0 a1 a2 a3 a4 a5 k, LeO (kinkeepref35_relief_open.f k a0 a1 a2 a3 a4 a5) (kinkeepref35_relief_open.f (k + 1) a0 a1 a2 a3 a4 a5) := by
 intro a0 a1 a2 a3 a4 a5 k
 have ih0 := kinkeepref35_relief_open.mono_l k
 unfold kinkeepref35_relief_open.f
 repeat' first
  | (with_reducible exact ih0 _ _ _ _ _ _ _)
  | (with_reducible exact LeO.refl _)
  | (with_reducible exact LeO.none _)
  | (with_reducible refine LeO.ite ?_ ?_)
  | (with_reducible refine LeO.bind ?_ (fun _ => ?_))
  | exact ih0 _ _ _ _ _ _ _
  | exact LeO.none _
  | refine LeO.ite ?_ ?_
  | refine LeO.bind ?_ (fun _ => ?_)
set_option maxHeartbeats 8000000 in
set_option maxRecDepth 100000 in
theorem kinkeepref35_relief_open.calls (k : Nat) (A0_0 : Option Addr) (c0_0 : Nat) (l0_0 : List Int) (A0_1 : Option Addr) (c0_1 : Nat) (l0_1 : List (List Int)) (A0_2 : Option Addr) (c0_2 : Nat) (l0_2 : List Int) (a1 : Int) (a2 : Int) (a3 : Int) (r : Bool) (w : World) (hr0_0 : Kd.C (Kd.int .i64) w A0_0 l0_0.length l0_0) (hc0_0 : l0_0.length ≤ c0_0) (hr0_1 : Kd.C (Kd.slice 3 (Kd.int .i64)) w A0_1 l0_1.length l0_1) (hc0_1 : l0_1.length ≤ c0_1) (hr0_2 : Kd.C (Kd.int .i64) w A0_2 l0_2.length l0_2) (hc0_2 : l0_2.length ≤ c0_2) (h : kinkeepref35_relief_open.f k l0_0 l0_1 l0_2 a1 a2 a3 = some r) :
 Calls Try.prog 73 #[.agg #[.slice A0_0 l0_0.length c0_0, .slice A0_1 l0_1.length c0_1, .slice A0_2 l0_2.length c0_2], .int .i64 a1, .int .i64 a2, .int .i64 a3] w fun e w' => e = .returned (.bool r) ∧ Below w.heap.size w w' := by
 have hu75 := Try.underlying75
 have HR0_0 := sA hr0_0
 have HC0_0 := sA hc0_0
 clear hr0_0 hc0_0
 have HR0_1 := sA hr0_1
 have HC0_1 := sA hc0_1
 clear hr0_1 hc0_1
 have HR0_2 := sA hr0_2
 have HC0_2 := sA hc0_2
 clear hr0_2 hc0_2
 have HB := sA (Below.refl w.heap.size w)
 have H : (kinkeepref35_relief_open.l0 k a1 a2 a3 0 l0_0 l0_1 l0_2) = some r := h
 clear h
 have H' := sA H
 clear H
 go_enter Try.func73, Try.ntmps73
 go_wp2_with (first | ((with_reducible refine gate_dst (N := 4) rfl ?_); refine box_event ?hg (N := 4) ?hd (cs := #[.slice A0_0 l0_0.length c0_0, .slice A0_1 l0_1.length c0_1, .slice A0_2 l0_2.length c0_2]) (t := 75) ?hr ?_; (case hd => rfl); (case hg => rfl); (case hr => first | (go_simp; done) | (go_simp; rfl)); intro gb510 hg w5 hbox hb; have n0_ := sA (below_step (upC HB.out) hb); have n1_ := sA (hbox); have n2_ := sA ((by rw [hg]; exact (below_size (upC HB.out)) : w.heap.size ≤ gb510)); have n3_ := sA ((by rw [hg]; exact (below_size (upC HB.out)) : w.heap.size ≤ gb510)); clear HB; have HB := n0_; have BK510 := n1_; have GW510 := n2_; have GE510 := n3_; clear n0_ n1_ n2_ n3_; clear hb hbox hg))
 go_loopg [9] k (fun kq v9 w' => ∃ (x9_1 : Int), v9 = .int .i64 x9_1 ∧ Aside0 (kinkeepref35_relief_open.l0 kq a1 a2 a3 x9_1 l0_0 l0_1 l0_2 = some r) ∧ Aside0 (kq ≤ k) ∧ Aside0 (w'.heap[gb510]? = some (.cells #[(.slice A0_0 l0_0.length c0_0), (.slice A0_1 l0_1.length c0_1), (.slice A0_2 l0_2.length c0_2)] 75 (0, 0))) ∧ Aside0 (Below w.heap.size w w'))
 case atStart => exact ⟨(0), (upE), H', ⟨Nat.le_refl _⟩, ⟨by (with_reducible repeat (first | refine blk_drewN ?_ _ | refine blk_drew ?_ | refine blk_alloc ?_ _)); exact BK510.out⟩, ⟨upB1 HB.out GE510.out⟩⟩
 case round =>
  clear H'
  try clear p2
  obtain ⟨x9_1, rfl, HA, HK1, BK510, HB⟩ := hrel
  cases gk with
  | zero => exact absurd HA.out (by simp [kinkeepref35_relief_open.l0])
  | succ k1 =>
   have H := HA.out
   clear HA
   simp only [kinkeepref35_relief_open.l0] at H
   by_cases c6 : x9_1 < (l0_0.length : Int)
   · rw [if_pos c6] at H
     have c6b0 : decide (x9_1 < (l0_0.length : Int)) = true := decide_eq_true c6
     clear c6
     by_cases c7 : x9_1 = a2
     · rw [if_pos c7] at H
       have c7b0 : (x9_1 == a2) = true := beq_iff_eq.mpr c7
       have c7b1 : (x9_1 != a2) = false := bne_eq_false_iff_eq.mpr c7
       clear c7
       have H' := sA H
       clear H
       have hcz8_0 : wr.cell? ⟨gb510, 0, none⟩ = some (.slice A0_0 l0_0.length c0_0) := (blk_cell BK510.out 0).trans rfl
       have hcz8_1 : wr.cell? ⟨gb510, 1, none⟩ = some (.slice A0_1 l0_1.length c0_1) := (blk_cell BK510.out 1).trans rfl
       have hcz8_2 : wr.cell? ⟨gb510, 2, none⟩ = some (.slice A0_2 l0_2.length c0_2) := (blk_cell BK510.out 2).trans rfl
       have hfz8_0 := blk_frozen BK510.out 0
       have hfz8_1 := blk_frozen BK510.out 1
       have hfz8_2 := blk_frozen BK510.out 2
       go_wp2
       go_roundg k1
       case measure => have := HK1.out; omega
       case rel => exact ⟨(wrap64 (x9_1 + 1)), (upE), H', ⟨by have := HK1.out; omega⟩, ⟨by (with_reducible repeat (first | refine blk_drewN ?_ _ | refine blk_drew ?_ | refine blk_alloc ?_ _)); exact BK510.out⟩, ⟨upB1 HB.out GE510.out⟩⟩
     · rw [if_neg c7] at H
       have c7b0 : (x9_1 == a2) = false := beq_eq_false_iff_ne.mpr c7
       have c7b1 : (x9_1 != a2) = true := bne_iff_ne.mpr c7
       by_cases c9 : x9_1 = a3
       · rw [if_pos c9] at H
         have c9b0 : (x9_1 == a3) = true := beq_iff_eq.mpr c9
         have c9b1 : (x9_1 != a3) = false := bne_eq_false_iff_eq.mpr c9
         clear c9
         have H' := sA H
         clear H
         have hcz10_0 : wr.cell? ⟨gb510, 0, none⟩ = some (.slice A0_0 l0_0.length c0_0) := (blk_cell BK510.out 0).trans rfl
         have hcz10_1 : wr.cell? ⟨gb510, 1, none⟩ = some (.slice A0_1 l0_1.length c0_1) := (blk_cell BK510.out 1).trans rfl
         have hcz10_2 : wr.cell? ⟨gb510, 2, none⟩ = some (.slice A0_2 l0_2.length c0_2) := (blk_cell BK510.out 2).trans rfl
         have hfz10_0 := blk_frozen BK510.out 0
         have hfz10_1 := blk_frozen BK510.out 1
         have hfz10_2 := blk_frozen BK510.out 2
         go_wp2
         go_roundg k1
         case measure => have := HK1.out; omega
         case rel => exact ⟨(wrap64 (x9_1 + 1)), (upE), H', ⟨by have := HK1.out; omega⟩, ⟨by (with_reducible repeat (first | refine blk_drewN ?_ _ | refine blk_drew ?_ | refine blk_alloc ?_ _)); exact BK510.out⟩, ⟨upB1 HB.out GE510.out⟩⟩
       · rw [if_neg c9] at H
         have c9b0 : (x9_1 == a3) = false := beq_eq_false_iff_ne.mpr c9
         have c9b1 : (x9_1 != a3) = true := bne_iff_ne.mpr c9
         by_cases c11 : 0 ≤ x9_1
         · rw [if_pos c11] at H
           have c11b0 := eq_true c11
           have c11b1 : decide (0 ≤ x9_1) = true := decide_eq_true c11
           clear c11
           obtain ⟨ji12, hji12⟩ : ∃ j_ : Int, (shr .i64 a1 x9_1) = j_ := ⟨_, rfl⟩
           replace H : (if (Go.bits .and .i64 (ji12) 1) = 0 then (some true) else (kinkeepref35_relief_open.l0 k1 a1 a2 a3 (wrap64 (x9_1 + 1)) l0_0 l0_1 l0_2)) = some r := by first | (rw [hji12] at H; exact H) | (simp only [hji12] at H ⊢; exact H)
           have hji12_ : (a1 / 2 ^ min x9_1.toNat 64) = ji12 := hji12
           have hji12z : x9_1 ≤ 64 → (a1 / 2 ^ x9_1.toNat) = ji12 := shr_small hji12
           by_cases c13 : (Go.bits .and .i64 (ji12) 1) = 0
           · rw [if_pos c13] at H
             have c13b0 : ((Go.bits .and .i64 (ji12) 1) == 0) = true := beq_iff_eq.mpr c13
             have c13b1 : ((Go.bits .and .i64 (ji12) 1) != 0) = false := bne_eq_false_iff_eq.mpr c13
             clear c13
             obtain rfl := Option.some.inj H
             have hcz14_0 : wr.cell? ⟨gb510, 0, none⟩ = some (.slice A0_0 l0_0.length c0_0) := (blk_cell BK510.out 0).trans rfl
             have hcz14_1 : wr.cell? ⟨gb510, 1, none⟩ = some (.slice A0_1 l0_1.length c0_1) := (blk_cell BK510.out 1).trans rfl
             have hcz14_2 : wr.cell? ⟨gb510, 2, none⟩ = some (.slice A0_2 l0_2.length c0_2) := (blk_cell BK510.out 2).trans rfl
             have hfz14_0 := blk_frozen BK510.out 0
             have hfz14_1 := blk_frozen BK510.out 1
             have hfz14_2 := blk_frozen BK510.out 2
             go_wp2
             go_ret
             exact ⟨by first | rfl | (simp [errW_none, errW_some] <;> rfl) | (simp only [← hji12]; first | rfl | (simp [errW_none, errW_some] <;> rfl)) | (simp [*, errW_none, errW_some] <;> rfl), upB1 HB.out GE510.out⟩
           · rw [if_neg c13] at H
             have c13b0 : ((Go.bits .and .i64 (ji12) 1) == 0) = false := beq_eq_false_iff_ne.mpr c13
             have c13b1 : ((Go.bits .and .i64 (ji12) 1) != 0) = true := bne_iff_ne.mpr c13
             have H' := sA H
             clear H
             have hcz15_0 : wr.cell? ⟨gb510, 0, none⟩ = some (.slice A0_0 l0_0.length c0_0) := (blk_cell BK510.out 0).trans rfl
             have hcz15_1 : wr.cell? ⟨gb510, 1, none⟩ = some (.slice A0_1 l0_1.length c0_1) := (blk_cell BK510.out 1).trans rfl
             have hcz15_2 : wr.cell? ⟨gb510, 2, none⟩ = some (.slice A0_2 l0_2.length c0_2) := (blk_cell BK510.out 2).trans rfl
             have hfz15_0 := blk_frozen BK510.out 0
             have hfz15_1 := blk_frozen BK510.out 1
             have hfz15_2 := blk_frozen BK510.out 2
             go_wp2
             go_roundg k1
             case measure => have := HK1.out; omega
             case rel => exact ⟨(wrap64 (x9_1 + 1)), (upE), H', ⟨by have := HK1.out; omega⟩, ⟨by (with_reducible repeat (first | refine blk_drewN ?_ _ | refine blk_drew ?_ | refine blk_alloc ?_ _)); exact BK510.out⟩, ⟨upB1 HB.out GE510.out⟩⟩
         · rw [if_neg c11] at H
           exact absurd H (by simp)
   · rw [if_neg c6] at H
     have c6b0 : decide (x9_1 < (l0_0.length : Int)) = false := decide_eq_false c6
     clear c6
     obtain rfl := Option.some.inj H
     have hcz16_0 : wr.cell? ⟨gb510, 0, none⟩ = some (.slice A0_0 l0_0.length c0_0) := (blk_cell BK510.out 0).trans rfl
     have hcz16_1 : wr.cell? ⟨gb510, 1, none⟩ = some (.slice A0_1 l0_1.length c0_1) := (blk_cell BK510.out 1).trans rfl
     have hcz16_2 : wr.cell? ⟨gb510, 2, none⟩ = some (.slice A0_2 l0_2.length c0_2) := (blk_cell BK510.out 2).trans rfl
     have hfz16_0 := blk_frozen BK510.out 0
     have hfz16_1 := blk_frozen BK510.out 1
     have hfz16_2 := blk_frozen BK510.out 2
     go_wp2
     go_ret
     exact ⟨by first | rfl | (simp [errW_none, errW_some] <;> rfl) | (simp [*, errW_none, errW_some] <;> rfl), upB1 HB.out GE510.out⟩
mutual
def kinkeepref35_relief_flow.l0 : Nat → Int → Int → Int → List Int → List (List Int) → List Int → Option (Int)
 | 0, _, _, _, _, _, _ => none
 | k + 1, x3, x4, x5, x512000, x512001, x512002 => if 0 ≤ x3 then (if x5 < (shl .i64 1 x3) then (kinkeepref35_relief_flow.l1 k x3 x4 x5 0 0 x512000 x512001 x512002) else (some x4)) else (none)
def kinkeepref35_relief_flow.l1 : Nat → Int → Int → Int → Int → Int → List Int → List (List Int) → List Int → Option (Int)
 | 0, _, _, _, _, _, _, _, _ => none
 | k + 1, x3, x4, x5, x6, x7, x512000, x512001, x512002 => if x7 < x3 then (if 0 ≤ x7 then (if (Go.bits .and .i64 (shr .i64 x5 x7) 1) = 1 then (if x7 < (x512002.length : Int) then (kinkeepref35_relief_flow.l1 k x3 x4 x5 (wrap64 (x6 + (rd x512002 x7))) (wrap64 (x7 + 1)) x512000 x512001 x512002) else (none)) else (kinkeepref35_relief_flow.l1 k x3 x4 x5 x6 (wrap64 (x7 + 1)) x512000 x512001 x512002)) else (none)) else (kinkeepref35_relief_flow.l2 k x3 x4 x5 x6 0 x512000 x512001 x512002)
def kinkeepref35_relief_flow.l2 : Nat → Int → Int → Int → Int → Int → List Int → List (List Int) → List Int → Option (Int)
 | 0, _, _, _, _, _, _, _, _ => none
 | k + 1, x3, x4, x5, x6, x8, x512000, x512001, x512002 => if x8 < x3 then (kinkeepref35_relief_flow.l3 k x3 x4 x5 x6 x8 0 0 x512000 x512001 x512002) else (if x4 < 0 then (kinkeepref35_relief_flow.l0 k x3 x6 (wrap64 (x5 + 1)) x512000 x512001 x512002) else (if x6 < x4 then (kinkeepref35_relief_flow.l0 k x3 x6 (wrap64 (x5 + 1)) x512000 x512001 x512002) else (kinkeepref35_relief_flow.l0 k x3 x4 (wrap64 (x5 + 1)) x512000 x512001 x512002)))
def kinkeepref35_relief_flow.l3 : Nat → Int → Int → Int → Int → Int → Int → Int → List Int → List (List Int) → List Int → Option (Int)
 | 0, _, _, _, _, _, _, _, _, _, _ => none
 | k + 1, x3, x4, x5, x6, x8, x9, x10, x512000, x512001, x512002 => if x10 < x3 then ((kinkeepref35_relief_open.f k x512000 x512001 x512002 x5 x8 x10).bind fun t513 => (if t513 = true then (if 0 ≤ x8 then (if x8 < (x512001.length : Int) then (if 0 ≤ x10 then (if x10 < ((rd_L1 x512001 x8).length : Int) then (kinkeepref35_relief_flow.l3 k x3 x4 x5 x6 x8 (wrap64 (x9 + (rd (rd_L1 x512001 x8) x10))) (wrap64 (x10 + 1)) x512000 x512001 x512002) else (none)) else (none)) else (none)) else (none)) else (kinkeepref35_relief_flow.l3 k x3 x4 x5 x6 x8 x9 (wrap64 (x10 + 1)) x512000 x512001 x512002))) else (if 0 ≤ x8 then (if x8 < (x512000.length : Int) then (kinkeepref35_relief_flow.l2 k x3 x4 x5 (wrap64 (x6 + (mn (rd x512000 x8) x9))) (wrap64 (x8 + 1)) x512000 x512001 x512002) else (none)) else (none))
end
def kinkeepref35_relief_flow.f (k : Nat) (l0_0 : List Int) (l0_1 : List (List Int)) (l0_2 : List Int) : Option (Int) := kinkeepref35_relief_flow.l0 k (l0_0.length : Int) (-1) 0 l0_0 l0_1 l0_2
theorem kinkeepref35_relief_flow.mono_l : ∀ k, (∀ y0 y1 y2 y3 y4 y5, LeO (kinkeepref35_relief_flow.l0 k y0 y1 y2 y3 y4 y5) (kinkeepref35_relief_flow.l0 (k + 1) y0 y1 y2 y3 y4 y5)) ∧ (∀ y0 y1 y2 y3 y4 y5 y6 y7, LeO (kinkeepref35_relief_flow.l1 k y0 y1 y2 y3 y4 y5 y6 y7) (kinkeepref35_relief_flow.l1 (k + 1) y0 y1 y2 y3 y4 y5 y6 y7)) ∧ (∀ y0 y1 y2 y3 y4 y5 y6 y7, LeO (kinkeepref35_relief_flow.l2 k y0 y1 y2 y3 y4 y5 y6 y7) (kinkeepref35_relief_flow.l2 (k + 1) y0 y1 y2 y3 y4 y5 y6 y7)) ∧ (∀ y0 y1 y2 y3 y4 y5 y6 y7 y8 y9, LeO (kinkeepref35_relief_flow.l3 k y0 y1 y2 y3 y4 y5 y6 y7 y8 y9) (kinkeepref35_relief_flow.l3 (k + 1) y0 y1 y2 y3 y4 y5 y6 y7 y8 y9))
 | 0 => ⟨fun _ _ _ _ _ _ r h => by simp [kinkeepref35_relief_flow.l0] at h, fun _ _ _ _ _ _ _ _ r h => by simp [kinkeepref35_relief_flow.l1] at h, fun _ _ _ _ _ _ _ _ r h => by simp [kinkeepref35_relief_flow.l2] at h, fun _ _ _ _ _ _ _ _ _ _ r h => by simp [kinkeepref35_relief_flow.l3] at h⟩
 | k + 1 => by
  obtain ⟨ih0, ih1, ih2, ih3⟩ := kinkeepref35_relief_flow.mono_l k
  refine ⟨?_, ?_, ?_, ?_⟩
  · intro y0 y1 y2 y3 y4 y5
    unfold kinkeepref35_relief_flow.l0
    repeat' first
    | (with_reducible exact ih0 _ _ _ _ _ _)
    | (with_reducible exact ih1 _ _ _ _ _ _ _ _)
    | (with_reducible exact ih2 _ _ _ _ _ _ _ _)
    | (with_reducible exact ih3 _ _ _ _ _ _ _ _ _ _)
    | (with_reducible exact kinkeepref35_relief_open.mono _ _ _ _ _ _ _)
    | (with_reducible exact LeO.refl _)
    | (with_reducible exact LeO.none _)
    | (with_reducible refine LeO.ite ?_ ?_)
    | (with_reducible refine LeO.bind ?_ (fun _ => ?_))
    | exact ih0 _ _ _ _ _ _
    | exact ih1 _ _ _ _ _ _ _ _
    | exact ih2 _ _ _ _ _ _ _ _
    | exact ih3 _ _ _ _ _ _ _ _ _ _
    | exact kinkeepref35_relief_open.mono _ _ _ _ _ _ _
    | exact LeO.none _
    | refine LeO.ite ?_ ?_
    | refine LeO.bind ?_ (fun _ => ?_)
  · intro y0 y1 y2 y3 y4 y5 y6 y7
    unfold kinkeepref35_relief_flow.l1
    repeat' first
    | (with_reducible exact ih0 _ _ _ _ _ _)
    | (with_reducible exact ih1 _ _ _ _ _ _ _ _)
    | (with_reducible exact ih2 _ _ _ _ _ _ _ _)
    | (with_reducible exact ih3 _ _ _ _ _ _ _ _ _ _)
    | (with_reducible exact kinkeepref35_relief_open.mono _ _ _ _ _ _ _)
    | (with_reducible exact LeO.refl _)
    | (with_reducible exact LeO.none _)
    | (with_reducible refine LeO.ite ?_ ?_)
    | (with_reducible refine LeO.bind ?_ (fun _ => ?_))
    | exact ih0 _ _ _ _ _ _
    | exact ih1 _ _ _ _ _ _ _ _
    | exact ih2 _ _ _ _ _ _ _ _
    | exact ih3 _ _ _ _ _ _ _ _ _ _
    | exact kinkeepref35_relief_open.mono _ _ _ _ _ _ _
    | exact LeO.none _
    | refine LeO.ite ?_ ?_
    | refine LeO.bind ?_ (fun _ => ?_)
  · intro y0 y1 y2 y3 y4 y5 y6 y7
    unfold kinkeepref35_relief_flow.l2
    repeat' first
    | (with_reducible exact ih0 _ _ _ _ _ _)
    | (with_reducible exact ih1 _ _ _ _ _ _ _ _)
    | (with_reducible exact ih2 _ _ _ _ _ _ _ _)
    | (with_reducible exact ih3 _ _ _ _ _ _ _ _ _ _)
    | (with_reducible exact kinkeepref35_relief_open.mono _ _ _ _ _ _ _)
    | (with_reducible exact LeO.refl _)
    | (with_reducible exact LeO.none _)
    | (with_reducible refine LeO.ite ?_ ?_)
    | (with_reducible refine LeO.bind ?_ (fun _ => ?_))
    | exact ih0 _ _ _ _ _ _
    | exact ih1 _ _ _ _ _ _ _ _
    | exact ih2 _ _ _ _ _ _ _ _
    | exact ih3 _ _ _ _ _ _ _ _ _ _
    | exact kinkeepref35_relief_open.mono _ _ _ _ _ _ _
    | exact LeO.none _
    | refine LeO.ite ?_ ?_
    | refine LeO.bind ?_ (fun _ => ?_)
  · intro y0 y1 y2 y3 y4 y5 y6 y7 y8 y9
    unfold kinkeepref35_relief_flow.l3
    repeat' first
    | (with_reducible exact ih0 _ _ _ _ _ _)
    | (with_reducible exact ih1 _ _ _ _ _ _ _ _)
    | (with_reducible exact ih2 _ _ _ _ _ _ _ _)
    | (with_reducible exact ih3 _ _ _ _ _ _ _ _ _ _)
    | (with_reducible exact kinkeepref35_relief_open.mono _ _ _ _ _ _ _)
    | (with_reducible exact LeO.refl _)
    | (with_reducible exact LeO.none _)
    | (with_reducible refine LeO.ite ?_ ?_)
    | (with_reducible refine LeO.bind ?_ (fun _ => ?_))
    | exact ih0 _ _ _ _ _ _
    | exact ih1 _ _ _ _ _ _ _ _
    | exact ih2 _ _ _ _ _ _ _ _
    | exact ih3 _ _ _ _ _ _ _ _ _ _
    | exact kinkeepref35_relief_open.mono _ _ _ _ _ _ _
    | exact LeO.none _
    | refine LeO.ite ?_ ?_
    | refine LeO.bind ?_ (fun _ => ?_)
theorem kinkeepref35_relief_flow.mono : ∀ a0 a1 a2 k, LeO (kinkeepref35_relief_flow.f k a0 a1 a2) (kinkeepref35_relief_flow.f (k + 1) a0 a1 a2) := by
 intro a0 a1 a2 k
 obtain ⟨ih0, ih1, ih2, ih3⟩ := kinkeepref35_relief_flow.mono_l k
 unfold kinkeepref35_relief_flow.f
 repeat' first
  | (with_reducible exact ih0 _ _ _ _ _ _)
  | (with_reducible exact ih1 _ _ _ _ _ _ _ _)
  | (with_reducible exact ih2 _ _ _ _ _ _ _ _)
  | (with_reducible exact ih3 _ _ _ _ _ _ _ _ _ _)
  | (with_reducible exact kinkeepref35_relief_open.mono _ _ _ _ _ _ _)
  | (with_reducible exact LeO.refl _)
  | (with_reducible exact LeO.none _)
  | (with_reducible refine LeO.ite ?_ ?_)
  | (with_reducible refine LeO.bind ?_ (fun _ => ?_))
  | exact ih0 _ _ _ _ _ _
  | exact ih1 _ _ _ _ _ _ _ _
  | exact ih2 _ _ _ _ _ _ _ _
  | exact ih3 _ _ _ _ _ _ _ _ _ _
  | exact kinkeepref35_relief_open.mono _ _ _ _ _ _ _
  | exact LeO.none _
  | refine LeO.ite ?_ ?_
  | refine LeO.bind ?_ (fun _ => ?_)
set_option maxHeartbeats 8000000 in
set_option maxRecDepth 100000 in
theorem kinkeepref35_relief_flow.calls (k : Nat) (A0_0 : Option Addr) (c0_0 : Nat) (l0_0 : List Int) (A0_1 : Option Addr) (c0_1 : Nat) (l0_1 : List (List Int)) (A0_2 : Option Addr) (c0_2 : Nat) (l0_2 : List Int) (r : Int) (w : World) (hr0_0 : Kd.C (Kd.int .i64) w A0_0 l0_0.length l0_0) (hc0_0 : l0_0.length ≤ c0_0) (hr0_1 : Kd.C (Kd.slice 3 (Kd.int .i64)) w A0_1 l0_1.length l0_1) (hc0_1 : l0_1.length ≤ c0_1) (hr0_2 : Kd.C (Kd.int .i64) w A0_2 l0_2.length l0_2) (hc0_2 : l0_2.length ≤ c0_2) (h : kinkeepref35_relief_flow.f k l0_0 l0_1 l0_2 = some r) :
 Calls Try.prog 56 #[.agg #[.slice A0_0 l0_0.length c0_0, .slice A0_1 l0_1.length c0_1, .slice A0_2 l0_2.length c0_2]] w fun e w' => e = .returned (.int .i64 r) ∧ Below w.heap.size w w' := by
 have hu75 := Try.underlying75
 have HR0_0 := sA hr0_0
 have HC0_0 := sA hc0_0
 clear hr0_0 hc0_0
 have HR0_1 := sA hr0_1
 have HC0_1 := sA hc0_1
 clear hr0_1 hc0_1
 have HR0_2 := sA hr0_2
 have HC0_2 := sA hc0_2
 clear hr0_2 hc0_2
 have HB := sA (Below.refl w.heap.size w)
 have H : (kinkeepref35_relief_flow.l0 k (l0_0.length : Int) (-1) 0 l0_0 l0_1 l0_2) = some r := h
 clear h
 have H' := sA H
 clear H
 go_enter Try.func56, Try.ntmps56
 go_wp2_with (first | ((with_reducible refine gate_dst (N := 1) rfl ?_); refine box_event ?hg (N := 1) ?hd (cs := #[.slice A0_0 l0_0.length c0_0, .slice A0_1 l0_1.length c0_1, .slice A0_2 l0_2.length c0_2]) (t := 75) ?hr ?_; (case hd => rfl); (case hg => rfl); (case hr => first | (go_simp; done) | (go_simp; rfl)); intro gb511 hg w2 hbox hb; have n0_ := sA (below_step (upC HB.out) hb); have n1_ := sA (hbox); have n2_ := sA ((by rw [hg]; exact (below_size (upC HB.out)) : w.heap.size ≤ gb511)); have n3_ := sA ((by rw [hg]; exact (below_size (upC HB.out)) : w.heap.size ≤ gb511)); clear HB; have HB := n0_; have BK511 := n1_; have GW511 := n2_; have GE511 := n3_; clear n0_ n1_ n2_ n3_; clear hb hbox hg; have hcz3_0 : w2.cell? ⟨gb511, 0, none⟩ = some (.slice A0_0 l0_0.length c0_0) := (blk_cell BK511.out 0).trans rfl; have hcz3_1 : w2.cell? ⟨gb511, 1, none⟩ = some (.slice A0_1 l0_1.length c0_1) := (blk_cell BK511.out 1).trans rfl; have hcz3_2 : w2.cell? ⟨gb511, 2, none⟩ = some (.slice A0_2 l0_2.length c0_2) := (blk_cell BK511.out 2).trans rfl; have hfz3_0 := blk_frozen BK511.out 0; have hfz3_1 := blk_frozen BK511.out 1; have hfz3_2 := blk_frozen BK511.out 2))
 go_loopg [4, 5] k (fun kq v4 v5 w' => ∃ (x4_1 : Int) (x5_1 : Int), v4 = .int .i64 x4_1 ∧ v5 = .int .i64 x5_1 ∧ Aside0 (kinkeepref35_relief_flow.l0 kq (l0_0.length : Int) x4_1 x5_1 l0_0 l0_1 l0_2 = some r) ∧ Aside0 (kq ≤ k) ∧ Aside0 (w'.heap[gb511]? = some (.cells #[(.slice A0_0 l0_0.length c0_0), (.slice A0_1 l0_1.length c0_1), (.slice A0_2 l0_2.length c0_2)] 75 (0, 0))) ∧ Aside0 (Below w.heap.size w w'))
 case atStart => exact ⟨((-1)), (0), (upE), (upE), H', ⟨Nat.le_refl _⟩, ⟨by (with_reducible repeat (first | refine blk_drewN ?_ _ | refine blk_drew ?_ | refine blk_alloc ?_ _)); exact BK511.out⟩, ⟨upB1 HB.out GE511.out⟩⟩
 case round =>
  clear H'
  try clear p2
  try clear hcz3_0
  try clear hcz3_1
  try clear hcz3_2
  try clear hfz3_0
  try clear hfz3_1
  try clear hfz3_2
  obtain ⟨x4_1, x5_1, rfl, rfl, HA, HK1, BK511, HB⟩ := hrel
  cases gk with
  | zero => exact absurd HA.out (by simp [kinkeepref35_relief_flow.l0])
  | succ k1 =>
   have H := HA.out
   clear HA
   simp only [kinkeepref35_relief_flow.l0] at H
   by_cases c4 : 0 ≤ (l0_0.length : Int)
   · rw [if_pos c4] at H
     have c4b0 := eq_true c4
     have c4b1 : decide (0 ≤ (l0_0.length : Int)) = true := decide_eq_true c4
     clear c4
     obtain ⟨ji5, hji5⟩ : ∃ j_ : Int, (shl .i64 1 (l0_0.length : Int)) = j_ := ⟨_, rfl⟩
     replace H : (if x5_1 < (ji5) then (kinkeepref35_relief_flow.l1 k1 (l0_0.length : Int) x4_1 x5_1 0 0 l0_0 l0_1 l0_2) else (some x4_1)) = some r := by first | (rw [hji5] at H; exact H) | (simp only [hji5] at H ⊢; exact H)
     have hji5_ : (IntKind.i64.wrap (1 * 2 ^ min (l0_0.length : Int).toNat 64)) = ji5 := hji5
     have hji5z : (l0_0.length : Int) ≤ 64 → (IntKind.i64.wrap (1 * 2 ^ (l0_0.length : Int).toNat)) = ji5 := shl_small hji5
     have hji5p : (IntKind.i64.wrap (1 * 2 ^ min l0_0.length 64)) = ji5 := hji5_
     have hji5q : (l0_0.length : Int) ≤ 64 → (IntKind.i64.wrap (1 * 2 ^ l0_0.length)) = ji5 := hji5z
     have hji5r : (IntKind.i64.wrap (2 ^ min l0_0.length 64)) = ji5 := by have h_ := hji5p; rw [Int.one_mul] at h_; exact h_
     have hji5s : (l0_0.length : Int) ≤ 64 → (IntKind.i64.wrap (2 ^ l0_0.length)) = ji5 := fun hle_ => by have h_ := hji5q hle_; rw [Int.one_mul] at h_; exact h_
     have hji5u : (IntKind.i64.wrap (2 ^ min (l0_0.length : Int).toNat 64)) = ji5 := by have h_ := hji5_; rw [Int.one_mul] at h_; exact h_
     have hji5v : (l0_0.length : Int) ≤ 64 → (IntKind.i64.wrap (2 ^ (l0_0.length : Int).toNat)) = ji5 := fun hle_ => by have h_ := hji5z hle_; rw [Int.one_mul] at h_; exact h_
     have hji5y : (wrap64 (1 * 2 ^ min (l0_0.length : Int).toNat 64)) = ji5 := (i64_w _).symm.trans hji5_
     have hji5x : (l0_0.length : Int) ≤ 64 → (wrap64 (1 * 2 ^ (l0_0.length : Int).toNat)) = ji5 := fun h_ => (i64_w _).symm.trans (hji5z h_)
     by_cases c6 : x5_1 < (ji5)
     · rw [if_pos c6] at H
       have c6b0 : decide (x5_1 < (ji5)) = true := decide_eq_true c6
       clear c6
       have H' := sA H
       clear H
       go_wp2
       go_loopg [6, 7] k1 (fun kq v6 v7 w' => ∃ (x6_2 : Int) (x7_2 : Int), v6 = .int .i64 x6_2 ∧ v7 = .int .i64 x7_2 ∧ Aside0 (kinkeepref35_relief_flow.l1 kq (l0_0.length : Int) x4_1 x5_1 x6_2 x7_2 l0_0 l0_1 l0_2 = some r) ∧ Aside0 (kq ≤ k1) ∧ Aside0 (w'.heap[gb511]? = some (.cells #[(.slice A0_0 l0_0.length c0_0), (.slice A0_1 l0_1.length c0_1), (.slice A0_2 l0_2.length c0_2)] 75 (0, 0))) ∧ Aside0 (Below w.heap.size w w'))
       case atStart => exact ⟨(0), (0), (upE), (upE), H', ⟨Nat.le_refl _⟩, ⟨by (with_reducible repeat (first | refine blk_drewN ?_ _ | refine blk_drew ?_ | refine blk_alloc ?_ _)); exact BK511.out⟩, ⟨upB1 HB.out GE511.out⟩⟩
       case round =>
        clear H'
        try clear p2
        try clear c4
        try clear c4b0
        try clear c4b1
        try clear c5
        try clear c6
        try clear c6b0
        try clear p6
        try clear hcz3_0
        try clear hcz3_1
        try clear hcz3_2
        try clear hfz3_0
        try clear hfz3_1
        try clear hfz3_2
        try clear p2
        obtain ⟨x6_2, x7_2, rfl, rfl, HA, HK2, BK511, HB⟩ := hrel
        cases gk with
        | zero => exact absurd HA.out (by simp [kinkeepref35_relief_flow.l1])
        | succ k2 =>
         have H := HA.out
         clear HA
         simp only [kinkeepref35_relief_flow.l1] at H
         by_cases c7 : x7_2 < (l0_0.length : Int)
         · rw [if_pos c7] at H
           have c7b0 : decide (x7_2 < (l0_0.length : Int)) = true := decide_eq_true c7
           clear c7
           by_cases c8 : 0 ≤ x7_2
           · rw [if_pos c8] at H
             have c8b0 := eq_true c8
             have c8b1 : decide (0 ≤ x7_2) = true := decide_eq_true c8
             clear c8
             obtain ⟨ji9, hji9⟩ : ∃ j_ : Int, (shr .i64 x5_1 x7_2) = j_ := ⟨_, rfl⟩
             replace H : (if (Go.bits .and .i64 (ji9) 1) = 1 then (if x7_2 < (l0_2.length : Int) then (kinkeepref35_relief_flow.l1 k2 (l0_0.length : Int) x4_1 x5_1 (wrap64 (x6_2 + (rd l0_2 x7_2))) (wrap64 (x7_2 + 1)) l0_0 l0_1 l0_2) else (none)) else (kinkeepref35_relief_flow.l1 k2 (l0_0.length : Int) x4_1 x5_1 x6_2 (wrap64 (x7_2 + 1)) l0_0 l0_1 l0_2)) = some r := by first | (rw [hji9] at H; exact H) | (simp only [hji9] at H ⊢; exact H)
             have hji9_ : (x5_1 / 2 ^ min x7_2.toNat 64) = ji9 := hji9
             have hji9z : x7_2 ≤ 64 → (x5_1 / 2 ^ x7_2.toNat) = ji9 := shr_small hji9
             by_cases c10 : (Go.bits .and .i64 (ji9) 1) = 1
             · rw [if_pos c10] at H
               have c10b0 : ((Go.bits .and .i64 (ji9) 1) == 1) = true := beq_iff_eq.mpr c10
               have c10b1 : ((Go.bits .and .i64 (ji9) 1) != 1) = false := bne_eq_false_iff_eq.mpr c10
               clear c10
               by_cases c11 : x7_2 < (l0_2.length : Int)
               · rw [if_pos c11] at H
                 have c11b0 : decide (x7_2 < (l0_2.length : Int)) = true := decide_eq_true c11
                 clear c11
                 have H' := sA H
                 clear H
                 have hcz12_0 : wr.cell? ⟨gb511, 0, none⟩ = some (.slice A0_0 l0_0.length c0_0) := (blk_cell BK511.out 0).trans rfl
                 have hcz12_1 : wr.cell? ⟨gb511, 1, none⟩ = some (.slice A0_1 l0_1.length c0_1) := (blk_cell BK511.out 1).trans rfl
                 have hcz12_2 : wr.cell? ⟨gb511, 2, none⟩ = some (.slice A0_2 l0_2.length c0_2) := (blk_cell BK511.out 2).trans rfl
                 have hfz12_0 := blk_frozen BK511.out 0
                 have hfz12_1 := blk_frozen BK511.out 1
                 have hfz12_2 := blk_frozen BK511.out 2
                 have p512 : 0 ≤ (x7_2 : Int) := upA
                 have q512 : x7_2 < (l0_2.length : Int) := upA
                 obtain ⟨ad512, e512, hx512_0⟩ := Kd.at_int HR0_2.out x7_2 p512 q512
                 cases e512
                 replace hx512_0 := (HB.out.cell (World.block_lt_of_cell? w _ hx512_0)).trans hx512_0
                 replace p512 := eq_true p512
                 replace q512 := eq_true q512
                 go_wp2
                 go_roundg k2
                 case measure => have := HK1.out; have := HK2.out; omega
                 case rel => exact ⟨(wrap64 (x6_2 + (rd l0_2 x7_2))), (wrap64 (x7_2 + 1)), (upE), (upE), H', ⟨by have := HK1.out; have := HK2.out; omega⟩, ⟨by (with_reducible repeat (first | refine blk_drewN ?_ _ | refine blk_drew ?_ | refine blk_alloc ?_ _)); exact BK511.out⟩, ⟨upB1 HB.out GE511.out⟩⟩
               · rw [if_neg c11] at H
                 exact absurd H (by simp)
             · rw [if_neg c10] at H
               have c10b0 : ((Go.bits .and .i64 (ji9) 1) == 1) = false := beq_eq_false_iff_ne.mpr c10
               have c10b1 : ((Go.bits .and .i64 (ji9) 1) != 1) = true := bne_iff_ne.mpr c10
               have H' := sA H
               clear H
               go_wp2
               go_roundg k2
               case measure => have := HK1.out; have := HK2.out; omega
               case rel => exact ⟨(x6_2), (wrap64 (x7_2 + 1)), (upE), (upE), H', ⟨by have := HK1.out; have := HK2.out; omega⟩, ⟨by (with_reducible repeat (first | refine blk_drewN ?_ _ | refine blk_drew ?_ | refine blk_alloc ?_ _)); exact BK511.out⟩, ⟨upB1 HB.out GE511.out⟩⟩
           · rw [if_neg c8] at H
             exact absurd H (by simp)
         · rw [if_neg c7] at H
           have c7b0 : decide (x7_2 < (l0_0.length : Int)) = false := decide_eq_false c7
           clear c7
           have H' := sA H
           clear H
           go_wp2
           go_loopg [6, 8] k2 (fun kq v6 v8 w' => ∃ (x6_3 : Int) (x8_3 : Int), v6 = .int .i64 x6_3 ∧ v8 = .int .i64 x8_3 ∧ Aside0 (kinkeepref35_relief_flow.l2 kq (l0_0.length : Int) x4_1 x5_1 x6_3 x8_3 l0_0 l0_1 l0_2 = some r) ∧ Aside0 (kq ≤ k2) ∧ Aside0 (w'.heap[gb511]? = some (.cells #[(.slice A0_0 l0_0.length c0_0), (.slice A0_1 l0_1.length c0_1), (.slice A0_2 l0_2.length c0_2)] 75 (0, 0))) ∧ Aside0 (Below w.heap.size w w'))
           case atStart => exact ⟨(x6_2), (0), (upE), (upE), H', ⟨Nat.le_refl _⟩, ⟨by (with_reducible repeat (first | refine blk_drewN ?_ _ | refine blk_drew ?_ | refine blk_alloc ?_ _)); exact BK511.out⟩, ⟨upB1 HB.out GE511.out⟩⟩
           case round =>
            clear H'
            try clear c1
            try clear p2
            try clear c4
            try clear c4b0
            try clear c4b1
            try clear c5
            try clear p5
            try clear q5
            try clear hx5
            try clear c6
            try clear c6b0
            try clear p6
            try clear c7
            try clear c7b0
            try clear c8
            try clear c8b0
            try clear c8b1
            try clear c10
            try clear c10b0
            try clear c10b1
            try clear c11
            try clear c11b0
            try clear hcz12_0
            try clear hcz12_1
            try clear hcz12_2
            try clear hcz3_0
            try clear hcz3_1
            try clear hcz3_2
            try clear hfz12_0
            try clear hfz12_1
            try clear hfz12_2
            try clear hfz3_0
            try clear hfz3_1
            try clear hfz3_2
            try clear hx512_0
            try clear p2
            try clear p512
            try clear p6
            try clear q512
            obtain ⟨x6_3, x8_3, rfl, rfl, HA, HK3, BK511, HB⟩ := hrel
            cases gk with
            | zero => exact absurd HA.out (by simp [kinkeepref35_relief_flow.l2])
            | succ k3 =>
             have H := HA.out
             clear HA
             simp only [kinkeepref35_relief_flow.l2] at H
             by_cases c13 : x8_3 < (l0_0.length : Int)
             · rw [if_pos c13] at H
               have c13b0 : decide (x8_3 < (l0_0.length : Int)) = true := decide_eq_true c13
               clear c13
               have H' := sA H
               clear H
               go_wp2
               go_loopg [9, 10] k3 (fun kq v9 v10 w' => ∃ (x9_4 : Int) (x10_4 : Int), v9 = .int .i64 x9_4 ∧ v10 = .int .i64 x10_4 ∧ Aside0 (kinkeepref35_relief_flow.l3 kq (l0_0.length : Int) x4_1 x5_1 x6_3 x8_3 x9_4 x10_4 l0_0 l0_1 l0_2 = some r) ∧ Aside0 (kq ≤ k3) ∧ Aside0 (w'.heap[gb511]? = some (.cells #[(.slice A0_0 l0_0.length c0_0), (.slice A0_1 l0_1.length c0_1), (.slice A0_2 l0_2.length c0_2)] 75 (0, 0))) ∧ Aside0 (Below w.heap.size w w'))
               case atStart => exact ⟨(0), (0), (upE), (upE), H', ⟨Nat.le_refl _⟩, ⟨by (with_reducible repeat (first | refine blk_drewN ?_ _ | refine blk_drew ?_ | refine blk_alloc ?_ _)); exact BK511.out⟩, ⟨upB1 HB.out GE511.out⟩⟩
               case round =>
                clear H'
                try clear c1
                try clear p2
                try clear c4
                try clear c4b0
                try clear c4b1
                try clear c5
                try clear p5
                try clear q5
                try clear hx5
                try clear c6
                try clear c6b0
                try clear p6
                try clear c7
                try clear c7b0
                try clear c8
                try clear c8b0
                try clear c8b1
                try clear c10
                try clear c10b0
                try clear c10b1
                try clear c11
                try clear c11b0
                try clear c13
                try clear c13b0
                try clear hcz12_0
                try clear hcz12_1
                try clear hcz12_2
                try clear hcz3_0
                try clear hcz3_1
                try clear hcz3_2
                try clear hfz12_0
                try clear hfz12_1
                try clear hfz12_2
                try clear hfz3_0
                try clear hfz3_1
                try clear hfz3_2
                try clear hx512_0
                try clear p2
                try clear p5
                try clear p512
                try clear p6
                try clear q5
                try clear q512
                obtain ⟨x9_4, x10_4, rfl, rfl, HA, HK4, BK511, HB⟩ := hrel
                cases gk with
                | zero => exact absurd HA.out (by simp [kinkeepref35_relief_flow.l3])
                | succ k4 =>
                 have H := HA.out
                 clear HA
                 simp only [kinkeepref35_relief_flow.l3] at H
                 by_cases c14 : x10_4 < (l0_0.length : Int)
                 · rw [if_pos c14] at H
                   have c14b0 : decide (x10_4 < (l0_0.length : Int)) = true := decide_eq_true c14
                   clear c14
                   replace H := Option.bind_eq_some_iff.mp H
                   obtain ⟨t513, A150, H⟩ := H
                   replace H : (if t513 = true then (if 0 ≤ x8_3 then (if x8_3 < (l0_1.length : Int) then (if 0 ≤ x10_4 then (if x10_4 < ((rd_L1 l0_1 x8_3).length : Int) then (kinkeepref35_relief_flow.l3 k4 (l0_0.length : Int) x4_1 x5_1 x6_3 x8_3 (wrap64 (x9_4 + (rd (rd_L1 l0_1 x8_3) x10_4))) (wrap64 (x10_4 + 1)) l0_0 l0_1 l0_2) else (none)) else (none)) else (none)) else (none)) else (kinkeepref35_relief_flow.l3 k4 (l0_0.length : Int) x4_1 x5_1 x6_3 x8_3 x9_4 (wrap64 (x10_4 + 1)) l0_0 l0_1 l0_2)) = some r := H
                   have A15 := sA A150
                   clear A150
                   by_cases c16 : t513 = true
                   · subst c16
                     have H1 : (if 0 ≤ x8_3 then (if x8_3 < (l0_1.length : Int) then (if 0 ≤ x10_4 then (if x10_4 < ((rd_L1 l0_1 x8_3).length : Int) then (kinkeepref35_relief_flow.l3 k4 (l0_0.length : Int) x4_1 x5_1 x6_3 x8_3 (wrap64 (x9_4 + (rd (rd_L1 l0_1 x8_3) x10_4))) (wrap64 (x10_4 + 1)) l0_0 l0_1 l0_2) else (none)) else (none)) else (none)) else (none)) = some r := by rw [if_pos rfl] at H; exact H
                     clear H
                     have H := H1
                     clear H1
                     by_cases c17 : 0 ≤ x8_3
                     · rw [if_pos c17] at H
                       have c17b0 : decide (0 ≤ x8_3) = true := decide_eq_true c17
                       clear c17
                       by_cases c18 : x8_3 < (l0_1.length : Int)
                       · rw [if_pos c18] at H
                         have c18b0 : decide (x8_3 < (l0_1.length : Int)) = true := decide_eq_true c18
                         clear c18
                         by_cases c19 : 0 ≤ x10_4
                         · rw [if_pos c19] at H
                           have c19b0 : decide (0 ≤ x10_4) = true := decide_eq_true c19
                           clear c19
                           by_cases c20 : x10_4 < ((rd_L1 l0_1 x8_3).length : Int)
                           · rw [if_pos c20] at H
                             have c20b0 : decide (x10_4 < ((rd_L1 l0_1 x8_3).length : Int)) = true := decide_eq_true c20
                             clear c20
                             have H' := sA H
                             clear H
                             have hcz21_0 : wr.cell? ⟨gb511, 0, none⟩ = some (.slice A0_0 l0_0.length c0_0) := (blk_cell BK511.out 0).trans rfl
                             have hcz21_1 : wr.cell? ⟨gb511, 1, none⟩ = some (.slice A0_1 l0_1.length c0_1) := (blk_cell BK511.out 1).trans rfl
                             have hcz21_2 : wr.cell? ⟨gb511, 2, none⟩ = some (.slice A0_2 l0_2.length c0_2) := (blk_cell BK511.out 2).trans rfl
                             have hfz21_0 := blk_frozen BK511.out 0
                             have hfz21_1 := blk_frozen BK511.out 1
                             have hfz21_2 := blk_frozen BK511.out 2
                             go_wp2_with (first | ((with_reducible refine gate_callee (f := 73) rfl ?_); refine goesL_ (some 51) rfl rfl Try.func73 (by kernel_rfl) rfl #[.agg #[.slice A0_0 l0_0.length c0_0, .slice A0_1 l0_1.length c0_1, .slice A0_2 l0_2.length c0_2], .int .i64 x5_1, .int .i64 x8_3, .int .i64 x10_4] rfl upM ?_; (with_reducible refine (kinkeepref35_relief_open.calls k4 _ _ l0_0 _ _ l0_1 _ _ l0_2 x5_1 x8_3 x10_4 true _ ?side1 ?side2 ?side3 ?side4 ?side5 ?side6 A15.out).mono ?_); (case side1 => exact upX (Kd.C_below HR0_0.out HB.out)); (case side2 => exact HC0_0.out); (case side3 => exact upX (Kd.C_below HR0_1.out HB.out)); (case side4 => exact HC0_1.out); (case side5 => exact upX (Kd.C_below HR0_2.out HB.out)); (case side6 => exact HC0_2.out); rintro e w22 ⟨rfl, hb⟩; refine ⟨_, rfl, ?_⟩; have n0_ := sA (blk_below (g := gb511) (upK BK511.out) hb); have n1_ := sA (below_step (upB1 HB.out GE511.out) hb); clear BK511; clear HB; have BK511 := n0_; have HB := n1_; clear n0_ n1_; (try clear hb); (try clear hb2); (try clear hk); (try clear hi); have hcz23_0 : w22.cell? ⟨gb511, 0, none⟩ = some (.slice A0_0 l0_0.length c0_0) := (blk_cell BK511.out 0).trans rfl; have hcz23_1 : w22.cell? ⟨gb511, 1, none⟩ = some (.slice A0_1 l0_1.length c0_1) := (blk_cell BK511.out 1).trans rfl; have hcz23_2 : w22.cell? ⟨gb511, 2, none⟩ = some (.slice A0_2 l0_2.length c0_2) := (blk_cell BK511.out 2).trans rfl; have hfz23_0 := blk_frozen BK511.out 0; have hfz23_1 := blk_frozen BK511.out 1; have hfz23_2 := blk_frozen BK511.out 2; have p514 : 0 ≤ (x8_3 : Int) := upA; have q514 : x8_3 < (l0_1.length : Int) := upA; obtain ⟨ad514, A514_0, c514_0, e514, hx514_0, hl514_0, hi514_0⟩ := at_L1 HR0_1.out x8_3 p514 q514; cases e514; replace hx514_0 := (HB.out.cell (World.block_lt_of_cell? w _ hx514_0)).trans hx514_0; have HR514_0 := sA hi514_0; have HC514_0 := sA hl514_0; clear hi514_0 hl514_0; replace p514 := eq_true p514; replace q514 := eq_true q514; have p515 : 0 ≤ (x10_4 : Int) := upA; have q515 : x10_4 < ((rd_L1 l0_1 x8_3).length : Int) := upA; obtain ⟨ad515, e515, hx515_0⟩ := Kd.at_int HR514_0.out x10_4 p515 q515; cases e515; replace hx515_0 := (HB.out.cell (World.block_lt_of_cell? w _ hx515_0)).trans hx515_0; replace p515 := eq_true p515; replace q515 := eq_true q515))
                             go_roundg k4
                             case measure => have := HK1.out; have := HK2.out; have := HK3.out; have := HK4.out; omega
                             case rel => exact ⟨(wrap64 (x9_4 + (rd (rd_L1 l0_1 x8_3) x10_4))), (wrap64 (x10_4 + 1)), (upE), (upE), H', ⟨by have := HK1.out; have := HK2.out; have := HK3.out; have := HK4.out; omega⟩, ⟨by (with_reducible repeat (first | refine blk_drewN ?_ _ | refine blk_drew ?_ | refine blk_alloc ?_ _)); exact BK511.out⟩, ⟨upB1 HB.out GE511.out⟩⟩
                           · rw [if_neg c20] at H
                             exact absurd H (by simp)
                         · rw [if_neg c19] at H
                           exact absurd H (by simp)
                       · rw [if_neg c18] at H
                         exact absurd H (by simp)
                     · rw [if_neg c17] at H
                       exact absurd H (by simp)
                   · replace c16 := Bool.eq_false_iff.mpr c16
                     subst c16
                     have H1 : (kinkeepref35_relief_flow.l3 k4 (l0_0.length : Int) x4_1 x5_1 x6_3 x8_3 x9_4 (wrap64 (x10_4 + 1)) l0_0 l0_1 l0_2) = some r := by rw [if_neg (show ¬ (false = true) by decide)] at H; exact H
                     clear H
                     have H := H1
                     clear H1
                     have H' := sA H
                     clear H
                     have hcz24_0 : wr.cell? ⟨gb511, 0, none⟩ = some (.slice A0_0 l0_0.length c0_0) := (blk_cell BK511.out 0).trans rfl
                     have hcz24_1 : wr.cell? ⟨gb511, 1, none⟩ = some (.slice A0_1 l0_1.length c0_1) := (blk_cell BK511.out 1).trans rfl
                     have hcz24_2 : wr.cell? ⟨gb511, 2, none⟩ = some (.slice A0_2 l0_2.length c0_2) := (blk_cell BK511.out 2).trans rfl
                     have hfz24_0 := blk_frozen BK511.out 0
                     have hfz24_1 := blk_frozen BK511.out 1
                     have hfz24_2 := blk_frozen BK511.out 2
                     go_wp2_with (first | ((with_reducible refine gate_callee (f := 73) rfl ?_); refine goesL_ (some 51) rfl rfl Try.func73 (by kernel_rfl) rfl #[.agg #[.slice A0_0 l0_0.length c0_0, .slice A0_1 l0_1.length c0_1, .slice A0_2 l0_2.length c0_2], .int .i64 x5_1, .int .i64 x8_3, .int .i64 x10_4] rfl upM ?_; (with_reducible refine (kinkeepref35_relief_open.calls k4 _ _ l0_0 _ _ l0_1 _ _ l0_2 x5_1 x8_3 x10_4 false _ ?side1 ?side2 ?side3 ?side4 ?side5 ?side6 A15.out).mono ?_); (case side1 => exact upX (Kd.C_below HR0_0.out HB.out)); (case side2 => exact HC0_0.out); (case side3 => exact upX (Kd.C_below HR0_1.out HB.out)); (case side4 => exact HC0_1.out); (case side5 => exact upX (Kd.C_below HR0_2.out HB.out)); (case side6 => exact HC0_2.out); rintro e w25 ⟨rfl, hb⟩; refine ⟨_, rfl, ?_⟩; have n0_ := sA (blk_below (g := gb511) (upK BK511.out) hb); have n1_ := sA (below_step (upB1 HB.out GE511.out) hb); clear BK511; clear HB; have BK511 := n0_; have HB := n1_; clear n0_ n1_; (try clear hb); (try clear hb2); (try clear hk); (try clear hi)))
                     go_roundg k4
                     case measure => have := HK1.out; have := HK2.out; have := HK3.out; have := HK4.out; omega
                     case rel => exact ⟨(x9_4), (wrap64 (x10_4 + 1)), (upE), (upE), H', ⟨by have := HK1.out; have := HK2.out; have := HK3.out; have := HK4.out; omega⟩, ⟨by (with_reducible repeat (first | refine blk_drewN ?_ _ | refine blk_drew ?_ | refine blk_alloc ?_ _)); exact BK511.out⟩, ⟨upB1 HB.out GE511.out⟩⟩
                 · rw [if_neg c14] at H
                   have c14b0 : decide (x10_4 < (l0_0.length : Int)) = false := decide_eq_false c14
                   clear c14
                   by_cases c26 : 0 ≤ x8_3
                   · rw [if_pos c26] at H
                     have c26b0 : decide (0 ≤ x8_3) = true := decide_eq_true c26
                     clear c26
                     by_cases c27 : x8_3 < (l0_0.length : Int)
                     · rw [if_pos c27] at H
                       have c27b0 : decide (x8_3 < (l0_0.length : Int)) = true := decide_eq_true c27
                       clear c27
                       obtain ⟨ji28, hji28⟩ : ∃ j_ : Int, (mn (rd l0_0 x8_3) x9_4) = j_ := ⟨_, rfl⟩
                       replace H : (kinkeepref35_relief_flow.l2 k4 (l0_0.length : Int) x4_1 x5_1 (wrap64 (x6_3 + (ji28))) (wrap64 (x8_3 + 1)) l0_0 l0_1 l0_2) = some r := by first | (rw [hji28] at H; exact H) | (simp only [hji28] at H ⊢; exact H)
                       have hji28_ : (if x9_4 < (rd l0_0 x8_3) then x9_4 else (rd l0_0 x8_3)) = ji28 := hji28
                       have H' := sA H
                       clear H
                       have hcz29_0 : wr.cell? ⟨gb511, 0, none⟩ = some (.slice A0_0 l0_0.length c0_0) := (blk_cell BK511.out 0).trans rfl
                       have hcz29_1 : wr.cell? ⟨gb511, 1, none⟩ = some (.slice A0_1 l0_1.length c0_1) := (blk_cell BK511.out 1).trans rfl
                       have hcz29_2 : wr.cell? ⟨gb511, 2, none⟩ = some (.slice A0_2 l0_2.length c0_2) := (blk_cell BK511.out 2).trans rfl
                       have hfz29_0 := blk_frozen BK511.out 0
                       have hfz29_1 := blk_frozen BK511.out 1
                       have hfz29_2 := blk_frozen BK511.out 2
                       have p516 : 0 ≤ (x8_3 : Int) := upA
                       have q516 : x8_3 < (l0_0.length : Int) := upA
                       obtain ⟨ad516, e516, hx516_0⟩ := Kd.at_int HR0_0.out x8_3 p516 q516
                       cases e516
                       replace hx516_0 := (HB.out.cell (World.block_lt_of_cell? w _ hx516_0)).trans hx516_0
                       replace p516 := eq_true p516
                       replace q516 := eq_true q516
                       go_wp2
                       go_roundg k4
                       case measure => have := HK1.out; have := HK2.out; have := HK3.out; have := HK4.out; omega
                       case rel => exact ⟨(wrap64 (x6_3 + (ji28))), (wrap64 (x8_3 + 1)), (by first | rfl | (simp; done) | (simp only [← hji28] <;> (first | rfl | simp)) | (simp [*]; done)), (upE), H', ⟨by have := HK1.out; have := HK2.out; have := HK3.out; have := HK4.out; omega⟩, ⟨by (with_reducible repeat (first | refine blk_drewN ?_ _ | refine blk_drew ?_ | refine blk_alloc ?_ _)); exact BK511.out⟩, ⟨upB1 HB.out GE511.out⟩⟩
                     · rw [if_neg c27] at H
                       exact absurd H (by simp)
                   · rw [if_neg c26] at H
                     exact absurd H (by simp)
             · rw [if_neg c13] at H
               have c13b0 : decide (x8_3 < (l0_0.length : Int)) = false := decide_eq_false c13
               clear c13
               by_cases c30 : x4_1 < 0
               · rw [if_pos c30] at H
                 have c30b0 : decide (x4_1 < 0) = true := decide_eq_true c30
                 clear c30
                 have H' := sA H
                 clear H
                 go_wp2
                 go_roundg k3
                 case measure => have := HK1.out; have := HK2.out; have := HK3.out; omega
                 case rel => exact ⟨(x6_3), (wrap64 (x5_1 + 1)), (upE), (upE), H', ⟨by have := HK1.out; have := HK2.out; have := HK3.out; omega⟩, ⟨by (with_reducible repeat (first | refine blk_drewN ?_ _ | refine blk_drew ?_ | refine blk_alloc ?_ _)); exact BK511.out⟩, ⟨upB1 HB.out GE511.out⟩⟩
               · rw [if_neg c30] at H
                 have c30b0 : decide (x4_1 < 0) = false := decide_eq_false c30
                 clear c30
                 by_cases c31 : x6_3 < x4_1
                 · rw [if_pos c31] at H
                   have c31b0 : decide (x6_3 < x4_1) = true := decide_eq_true c31
                   clear c31
                   have H' := sA H
                   clear H
                   go_wp2
                   go_roundg k3
                   case measure => have := HK1.out; have := HK2.out; have := HK3.out; omega
                   case rel => exact ⟨(x6_3), (wrap64 (x5_1 + 1)), (upE), (upE), H', ⟨by have := HK1.out; have := HK2.out; have := HK3.out; omega⟩, ⟨by (with_reducible repeat (first | refine blk_drewN ?_ _ | refine blk_drew ?_ | refine blk_alloc ?_ _)); exact BK511.out⟩, ⟨upB1 HB.out GE511.out⟩⟩
                 · rw [if_neg c31] at H
                   have c31b0 : decide (x6_3 < x4_1) = false := decide_eq_false c31
                   clear c31
                   have H' := sA H
                   clear H
                   go_wp2
                   go_roundg k3
                   case measure => have := HK1.out; have := HK2.out; have := HK3.out; omega
                   case rel => exact ⟨(x4_1), (wrap64 (x5_1 + 1)), (upE), (upE), H', ⟨by have := HK1.out; have := HK2.out; have := HK3.out; omega⟩, ⟨by (with_reducible repeat (first | refine blk_drewN ?_ _ | refine blk_drew ?_ | refine blk_alloc ?_ _)); exact BK511.out⟩, ⟨upB1 HB.out GE511.out⟩⟩
     · rw [if_neg c6] at H
       have c6b0 : decide (x5_1 < (ji5)) = false := decide_eq_false c6
       clear c6
       obtain rfl := Option.some.inj H
       go_wp2
       go_ret
       exact ⟨by first | rfl | (simp [errW_none, errW_some] <;> rfl) | (simp only [← hji5]; first | rfl | (simp [errW_none, errW_some] <;> rfl)) | (simp [*, errW_none, errW_some] <;> rfl), upB1 HB.out GE511.out⟩
   · rw [if_neg c4] at H
     exact absurd H (by simp)
end Go.Proofs.Ytdljbmgknhbceaa.Q
end
section
namespace Go.Proofs.Ytdljbmgknhbceaa.P
open Go.RowKit Go.Proofs.YtdljbmgknhbceaaW.PrintWords Go.Proofs.YtdljbmgknhbceaaW.PrintMore Go.Proofs.Ytdljbmgknhbceaa.Q
theorem bit_eq : ∀ s, s < 64 → ∀ t, t < 6 → Go.bits .and .i64 (shr .i64 ((s : Nat) : Int) ((t : Nat) : Int)) 1 = if s.testBit t then 1 else 0 := by decide +kernel
theorem shl_eq : ∀ n, n < 7 → shl .i64 1 ((n : Nat) : Int) = ((2 ^ n : Nat) : Int) := by decide +kernel
theorem pow_le : ∀ n, n < 7 → 1 ≤ 2 ^ n ∧ 2 ^ n ≤ 64 := by decide +kernel
theorem set_of (n : Nat) : ∀ S : Nat → Prop, ∃ s, s < 2 ^ n ∧ ∀ k, k < n → (s.testBit k = true ↔ S k) := by
 induction n with
 | zero => intro S; exact ⟨0, by simp, fun k hk => by omega⟩
 | succ n ih =>
  intro S
  obtain ⟨s, hs, hk⟩ := ih (fun k => S (k + 1))
  have hp : 2 ^ (n + 1) = 2 * 2 ^ n := by rw [Nat.pow_succ]; omega
  by_cases c : S 0
  · refine ⟨2 * s + 1, by omega, fun k hk' => ?_⟩
    cases k with
    | zero => rw [Nat.testBit_zero]; simp [c]
    | succ k => rw [Nat.testBit_succ, show (2 * s + 1) / 2 = s by omega]; exact hk k (by omega)
  · refine ⟨2 * s, by omega, fun k hk' => ?_⟩
    cases k with
    | zero => rw [Nat.testBit_zero]; simp [c]
    | succ k => rw [Nat.testBit_succ, show (2 * s) / 2 = s by omega]; exact hk k (by omega)
def tkS (tk : List Int) (s : Nat) (m : Nat) : Int := isum (fun t => if s.testBit t = true then rd tk t else 0) m
def dP (n s h o : Nat) : Prop := ∃ k, k < n ∧ ¬ (s.testBit k = true) ∧ okR h o k
noncomputable def tm (n : Nat) (hs : List (List Int)) (s h o : Nat) : Int := @ite Int (dP n s h o) (Classical.propDecidable _) (A.get hs h o) 0
theorem tm_pos {n : Nat} {hs : List (List Int)} {s h o : Nat} (c : dP n s h o) : tm n hs s h o = A.get hs h o := if_pos c
theorem tm_neg {n : Nat} {hs : List (List Int)} {s h o : Nat} (c : ¬ dP n s h o) : tm n hs s h o = 0 := if_neg c
noncomputable def canS (n : Nat) (hs : List (List Int)) (s h : Nat) (m : Nat) : Int := isum (fun o => tm n hs s h o) m
noncomputable def gvS (g : List Int) (hs : List (List Int)) (s : Nat) (m : Nat) : Int := isum (fun h => min (rd g h) (canS g.length hs s h g.length)) m
theorem tkS1 (tk : List Int) (s m : Nat) : tkS tk s (m + 1) = tkS tk s m + (if s.testBit m = true then rd tk m else 0) := rfl
theorem canS1 (n : Nat) (hs : List (List Int)) (s h m : Nat) : canS n hs s h (m + 1) = canS n hs s h m + tm n hs s h m := rfl
theorem gvS0 (g : List Int) (hs : List (List Int)) (s : Nat) : gvS g hs s 0 = 0 := rfl
theorem gvS1 (g : List Int) (hs : List (List Int)) (s m : Nat) : gvS g hs s (m + 1) = gvS g hs s m + min (rd g m) (canS g.length hs s m g.length) := rfl
theorem val_eq (g : List Int) (hs : List (List Int)) (tk : List Int) (s : Nat) : valS g.length (fun h => rd g h) (fun h o => A.get hs h o) (fun k => rd tk k) (fun k => s.testBit k = true) = tkS tk s g.length + gvS g hs s g.length := by
 unfold valS tkS gvS canS
 congr 1
 · refine isum_congr (fun k _ => ?_)
   by_cases c : s.testBit k = true
   · rw [if_pos c, if_pos c]
   · rw [if_neg c, if_neg c]
 · refine isum_congr (fun h _ => ?_)
   congr 1
   refine isum_congr (fun o _ => ?_)
   by_cases c : dP g.length s h o
   · rw [tm_pos c]; exact if_pos c
   · rw [tm_neg c]; exact if_neg c
theorem wadd {a b : Int} {m : Nat} (ha : 0 ≤ a ∧ a ≤ m * 10000000000000) (hm : m ≤ 6) (hb : 0 ≤ b ∧ b ≤ 10000000000000) : wrap64 (a + b) = a + b := w64 (by omega)
def Ev {α : Type} (f : Nat → Option α) (r : α) : Prop := ∃ k0, ∀ k, k0 ≤ k → f k = some r
section
variable (g : List Int) (hs : List (List Int)) (tk : List Int) (hn : g.length ≤ 6)
include hn
theorem open_go (s : Nat) (hs64 : s < 64) (h o : Nat) : ∀ (m i k : Nat), g.length - i ≤ m → i ≤ g.length → m < k → ∃ b, kinkeepref35_relief_open.l0 k s h o i g hs tk = some b ∧ (b = true ↔ ∃ t, i ≤ t ∧ t < g.length ∧ s.testBit t = false ∧ okR h o t) := by
 intro m
 induction m with
 | zero =>
  intro i k hm hi hk
  obtain ⟨k, rfl⟩ : ∃ k', k = k' + 1 := ⟨k - 1, by omega⟩
  rw [kinkeepref35_relief_open.l0, if_neg (by omega)]
  exact ⟨false, rfl, by simp; intro t h1 h2; omega⟩
 | succ m ih =>
  intro i k hm hi hk
  obtain ⟨k, rfl⟩ : ∃ k', k = k' + 1 := ⟨k - 1, by omega⟩
  rw [kinkeepref35_relief_open.l0]
  by_cases c : i < g.length
  · rw [if_pos (by omega)]
    have hw : wrap64 ((i : Int) + 1) = ((i + 1 : Nat) : Int) := by rw [w64 (by omega)]; rfl
    obtain ⟨b, hb1, hb2⟩ := ih (i + 1) k (by omega) (by omega) (by omega)
    have skip : ¬ (s.testBit i = false ∧ okR h o i) → (b = true ↔ ∃ t, i ≤ t ∧ t < g.length ∧ s.testBit t = false ∧ okR h o t) := fun hne => by
     rw [hb2]
     constructor
     · rintro ⟨t, h1, h2⟩; exact ⟨t, by omega, h2⟩
     · rintro ⟨t, h1, h2, h3⟩
       refine ⟨t, ?_, h2, h3⟩
       by_cases e : t = i
       · subst e; exact absurd h3 hne
       · omega
    by_cases c1 : (i : Int) = (h : Int)
    · rw [if_pos c1, hw]
      exact ⟨b, hb1, skip (fun e => e.2.1 (by omega))⟩
    · rw [if_neg c1]
      by_cases c2 : (i : Int) = (o : Int)
      · rw [if_pos c2, hw]
        exact ⟨b, hb1, skip (fun e => e.2.2 (by omega))⟩
      · rw [if_neg c2, if_pos (by omega), bit_eq s hs64 i (by omega)]
        cases e : s.testBit i with
        | true =>
         rw [if_pos rfl, if_neg (by omega), hw]
         exact ⟨b, hb1, skip (fun e' => by rw [e] at e'; cases e'.1)⟩
        | false =>
         rw [if_pos (show (if false = true then (1 : Int) else 0) = 0 from rfl)]
         exact ⟨true, rfl, fun _ => ⟨i, Nat.le_refl _, c, e, by omega, by omega⟩, fun _ => rfl⟩
  · rw [if_neg (by omega)]
    exact ⟨false, rfl, by simp; intro t h1 h2; omega⟩
theorem open_f (s : Nat) (hs64 : s < 64) (h o : Nat) (k : Nat) (hk : 6 < k) : ∃ b, kinkeepref35_relief_open.f k g hs tk s h o = some b ∧ (b = true ↔ ∃ t, t < g.length ∧ ¬ (s.testBit t = true) ∧ okR h o t) := by
 obtain ⟨b, h1, h2⟩ := open_go g hs tk hn s hs64 h o g.length 0 k (by omega) (by omega) (by omega)
 refine ⟨b, h1, h2.trans ?_⟩
 constructor
 · rintro ⟨t, _, a, b, c⟩; exact ⟨t, a, by rw [b]; simp, c⟩
 · rintro ⟨t, a, b, c⟩; exact ⟨t, by omega, a, by simpa using b, c⟩
variable (lt : tk.length = g.length) (lh : hs.length = g.length) (lr : ∀ i : Nat, i < g.length → (rd_L1 hs i).length = g.length)
 (bg : ∀ i : Nat, i < g.length → 0 ≤ rd g i ∧ rd g i ≤ 10000000000000) (bt : ∀ i : Nat, i < g.length → 0 ≤ rd tk i ∧ rd tk i ≤ 10000000000000) (bh : ∀ i j : Nat, i < g.length → j < g.length → 0 ≤ A.get hs i j ∧ A.get hs i j ≤ 10000000000000)
include lt lh lr bg bt bh
theorem can_b (s h : Nat) (hh : h < g.length) (m : Nat) (hm : m ≤ g.length) : 0 ≤ canS g.length hs s h m ∧ canS g.length hs s h m ≤ m * 10000000000000 := isum_bound _ _ m (fun i hi => by
  have := bh h i hh (by omega)
  by_cases c : dP g.length s h i
  · rw [tm_pos c]; exact this
  · rw [tm_neg c]; omega)
theorem gv_b (s m : Nat) (hm : m ≤ g.length) : 0 ≤ gvS g hs s m ∧ gvS g hs s m ≤ m * 10000000000000 := isum_bound _ _ m (fun i hi => by
  have := bg i (by omega)
  have := (can_b g hs tk hn lt lh lr bg bt bh s i (by omega) g.length (Nat.le_refl _)).1
  omega)
theorem tk_b (s m : Nat) (hm : m ≤ g.length) : 0 ≤ tkS tk s m ∧ tkS tk s m ≤ m * 10000000000000 := isum_bound _ _ m (fun i hi => by
  have := bt i (by omega)
  split <;> omega)
theorem flow_l3 (s : Nat) (hs64 : s < 64) (best x6 F : Int) (h : Nat) (hh : h < g.length) (b6 : 0 ≤ x6 ∧ x6 ≤ 120000000000000)
 (hnext : Ev (fun k => kinkeepref35_relief_flow.l2 k g.length best s (x6 + min (rd g h) (canS g.length hs s h g.length)) ((h + 1 : Nat) : Int) g hs tk) F) :
 ∀ m o, g.length - o ≤ m → o ≤ g.length → Ev (fun k => kinkeepref35_relief_flow.l3 k g.length best s x6 h (canS g.length hs s h o) o g hs tk) F := by
 have bb := can_b g hs tk hn lt lh lr bg bt bh s h hh
 have ends : ∀ o, ¬ o < g.length → o ≤ g.length → Ev (fun k => kinkeepref35_relief_flow.l3 k g.length best s x6 h (canS g.length hs s h o) o g hs tk) F := fun o c ho => by
  obtain rfl : o = g.length := by omega
  obtain ⟨k0, hk0⟩ := hnext
  refine ⟨k0 + 1, fun k hk => ?_⟩
  obtain ⟨k, rfl⟩ : ∃ k', k = k' + 1 := ⟨k - 1, by omega⟩
  show kinkeepref35_relief_flow.l3 (k + 1) _ _ _ _ _ _ _ _ _ _ = _
  rw [kinkeepref35_relief_flow.l3, if_neg (by omega), if_pos (by omega), if_pos (by omega)]
  have e := hk0 k (by omega)
  have bgh := bg h hh
  have bc := bb g.length (Nat.le_refl _)
  have hmn : mn (rd g h) (canS g.length hs s h g.length) = min (rd g h) (canS g.length hs s h g.length) := by unfold mn; split <;> omega
  rw [hmn, w64 (x := (h : Int) + 1) (by omega), w64 (by omega)]
  exact e
 intro m
 induction m with
 | zero => intro o hm ho; exact ends o (by omega) ho
 | succ m ih =>
  intro o hm ho
  by_cases c : o < g.length
  · obtain ⟨k0, hk0⟩ := ih (o + 1) (by omega) (by omega)
    have f0 : (o : Int) < (g.length : Int) := by omega
    have f1 : (0 : Int) ≤ (h : Int) := Int.natCast_nonneg h
    have f2 : (h : Int) < (hs.length : Int) := by omega
    have f3 : (0 : Int) ≤ (o : Int) := Int.natCast_nonneg o
    have f4 : (o : Int) < ((rd_L1 hs h).length : Int) := by rw [lr h hh]; exact f0
    have hw : wrap64 ((o : Int) + 1) = ((o + 1 : Nat) : Int) := by rw [w64 (by omega)]; rfl
    have ho6 : o ≤ 6 := Nat.le_trans ho hn
    have hadd : wrap64 (canS g.length hs s h o + A.get hs h o) = canS g.length hs s h o + A.get hs h o := wadd (bb o ho) ho6 (bh h o hh c)
    refine ⟨k0 + 8, fun k hk => ?_⟩
    obtain ⟨k, rfl⟩ : ∃ k', k = k' + 1 := ⟨k - 1, by omega⟩
    have e := hk0 k (by omega)
    obtain ⟨b, hb1, hb2⟩ := open_f g hs tk hn s hs64 h o k (by omega)
    show kinkeepref35_relief_flow.l3 (k + 1) _ _ _ _ _ _ _ _ _ _ = _
    rw [kinkeepref35_relief_flow.l3, if_pos f0]
    rw [hb1, Option.bind_some]
    cases b with
    | true =>
     have hex : dP g.length s h o := hb2.1 rfl
     rw [canS1, tm_pos hex] at e
     rw [if_pos rfl, if_pos f1, if_pos f2, if_pos f3, if_pos f4, hw]
     unfold A.get at hadd e
     rw [hadd]
     exact e
    | false =>
     have hex : ¬ dP g.length s h o := fun z => by have := hb2.2 z; cases this
     rw [canS1, tm_neg hex, Int.add_zero] at e
     rw [if_neg (by simp), hw]
     exact e
  · exact ends o c ho
theorem flow_l2 (s : Nat) (hs64 : s < 64) (best sumT F : Int) (b6 : 0 ≤ sumT ∧ sumT ≤ 60000000000000)
 (hnext : Ev (fun k => kinkeepref35_relief_flow.l0 k g.length (if best < 0 then sumT + gvS g hs s g.length
   else if sumT + gvS g hs s g.length < best then sumT + gvS g hs s g.length else best) ((s + 1 : Nat) : Int) g hs tk) F) :
 ∀ m h, g.length - h ≤ m → h ≤ g.length → Ev (fun k => kinkeepref35_relief_flow.l2 k g.length best s (sumT + gvS g hs s h) h g hs tk) F := by
 have bb := gv_b g hs tk hn lt lh lr bg bt bh s
 have ends : ∀ h, ¬ h < g.length → h ≤ g.length → Ev (fun k => kinkeepref35_relief_flow.l2 k g.length best s (sumT + gvS g hs s h) h g hs tk) F := fun h c hh => by
  obtain rfl : h = g.length := by omega
  obtain ⟨k0, hk0⟩ := hnext
  refine ⟨k0 + 1, fun k hk => ?_⟩
  obtain ⟨k, rfl⟩ : ∃ k', k = k' + 1 := ⟨k - 1, by omega⟩
  show kinkeepref35_relief_flow.l2 (k + 1) _ _ _ _ _ _ _ _ = _
  rw [kinkeepref35_relief_flow.l2, if_neg (by omega)]
  have e := hk0 k (by omega)
  have hw : wrap64 ((s : Int) + 1) = ((s + 1 : Nat) : Int) := by rw [w64 (by omega)]; rfl
  rw [hw]
  by_cases c1 : best < 0
  · rw [if_pos c1] at e ⊢; exact e
  · rw [if_neg c1] at e ⊢
    split
    · rename_i c2; rw [if_pos c2] at e; exact e
    · rename_i c2; rw [if_neg c2] at e; exact e
 intro m
 induction m with
 | zero => intro h hm hh; exact ends h (by omega) hh
 | succ m ih =>
  intro h hm hh
  by_cases c : h < g.length
  · have b1 := bb h hh
    obtain ⟨k0, hk0⟩ := flow_l3 g hs tk hn lt lh lr bg bt bh s hs64 best (sumT + gvS g hs s h) F h c ⟨by omega, by omega⟩ (by
      have := ih (h + 1) (by omega) (by omega)
      rw [gvS1, ← Int.add_assoc] at this
      exact this) g.length 0 (by omega) (by omega)
    refine ⟨k0 + 1, fun k hk => ?_⟩
    obtain ⟨k, rfl⟩ : ∃ k', k = k' + 1 := ⟨k - 1, by omega⟩
    show kinkeepref35_relief_flow.l2 (k + 1) _ _ _ _ _ _ _ _ = _
    rw [kinkeepref35_relief_flow.l2, if_pos (by omega)]
    exact hk0 k (by omega)
  · exact ends h c hh
theorem flow_l1 (s : Nat) (hs64 : s < 64) (best F : Int)
 (hnext : Ev (fun k => kinkeepref35_relief_flow.l2 k g.length best s (tkS tk s g.length) 0 g hs tk) F) :
 ∀ m t, g.length - t ≤ m → t ≤ g.length → Ev (fun k => kinkeepref35_relief_flow.l1 k g.length best s (tkS tk s t) t g hs tk) F := by
 have bb := tk_b g hs tk hn lt lh lr bg bt bh s
 have ends : ∀ t, ¬ t < g.length → t ≤ g.length → Ev (fun k => kinkeepref35_relief_flow.l1 k g.length best s (tkS tk s t) t g hs tk) F := fun t c ht => by
  obtain rfl : t = g.length := by omega
  obtain ⟨k0, hk0⟩ := hnext
  refine ⟨k0 + 1, fun k hk => ?_⟩
  obtain ⟨k, rfl⟩ : ∃ k', k = k' + 1 := ⟨k - 1, by omega⟩
  show kinkeepref35_relief_flow.l1 (k + 1) _ _ _ _ _ _ _ _ = _
  rw [kinkeepref35_relief_flow.l1, if_neg (by omega)]
  exact hk0 k (by omega)
 intro m
 induction m with
 | zero => intro t hm ht; exact ends t (by omega) ht
 | succ m ih =>
  intro t hm ht
  by_cases c : t < g.length
  · obtain ⟨k0, hk0⟩ := ih (t + 1) (by omega) (by omega)
    refine ⟨k0 + 1, fun k hk => ?_⟩
    obtain ⟨k, rfl⟩ : ∃ k', k = k' + 1 := ⟨k - 1, by omega⟩
    have e := hk0 k (by omega)
    show kinkeepref35_relief_flow.l1 (k + 1) _ _ _ _ _ _ _ _ = _
    rw [kinkeepref35_relief_flow.l1, if_pos (by omega), if_pos (by omega), bit_eq s hs64 t (by omega)]
    have hw : wrap64 ((t : Int) + 1) = ((t + 1 : Nat) : Int) := by rw [w64 (by omega)]; rfl
    rw [hw]
    have b1 := bb t (by omega)
    have b2 := bt t c
    rw [tkS1] at e
    by_cases c1 : s.testBit t = true
    · rw [if_pos c1] at e
      rw [if_pos c1, if_pos rfl, if_pos (by omega), w64 (by omega)]
      exact e
    · rw [if_neg c1, Int.add_zero] at e
      rw [if_neg c1, if_neg (by omega)]
      exact e
  · exact ends t c ht
theorem flow_l0 : ∀ (m s : Nat) (best : Int), 2 ^ g.length - s ≤ m → s ≤ 2 ^ g.length → (best = -1 ∧ s = 0) ∨ (0 ≤ best ∧ 0 < s ∧ ∀ D : Int, D ≤ best ↔ ∀ s', s' < s → D ≤ valS g.length (fun h => rd g h) (fun h o => A.get hs h o) (fun k => rd tk k) (fun k => s'.testBit k = true)) →
 ∃ F, Ev (fun k => kinkeepref35_relief_flow.l0 k g.length best s g hs tk) F ∧ 0 ≤ F ∧ ∀ D : Int, D ≤ F ↔ ∀ s', s' < 2 ^ g.length → D ≤ valS g.length (fun h => rd g h) (fun h o => A.get hs h o) (fun k => rd tk k) (fun k => s'.testBit k = true) := by
 have hp := pow_le g.length (by omega)
 have ends : ∀ (s : Nat) (best : Int), ¬ s < 2 ^ g.length → s ≤ 2 ^ g.length → (best = -1 ∧ s = 0) ∨ (0 ≤ best ∧ 0 < s ∧ ∀ D : Int, D ≤ best ↔ ∀ s', s' < s → D ≤ valS g.length (fun h => rd g h) (fun h o => A.get hs h o) (fun k => rd tk k) (fun k => s'.testBit k = true)) →
  ∃ F, Ev (fun k => kinkeepref35_relief_flow.l0 k g.length best s g hs tk) F ∧ 0 ≤ F ∧ ∀ D : Int, D ≤ F ↔ ∀ s', s' < 2 ^ g.length → D ≤ valS g.length (fun h => rd g h) (fun h o => A.get hs h o) (fun k => rd tk k) (fun k => s'.testBit k = true) := fun s best c hs' hb => by
  obtain rfl : s = 2 ^ g.length := by omega
  rcases hb with ⟨_, hb⟩ | ⟨hb0, _, hb⟩
  · omega
  · refine ⟨best, ⟨1, fun k hk => ?_⟩, hb0, hb⟩
    obtain ⟨k, rfl⟩ : ∃ k', k = k' + 1 := ⟨k - 1, by omega⟩
    show kinkeepref35_relief_flow.l0 (k + 1) _ _ _ _ _ _ = _
    rw [kinkeepref35_relief_flow.l0, if_pos (by omega), shl_eq g.length (by omega), if_neg (by omega)]
 intro m
 induction m with
 | zero => intro s best hm hs' hb; exact ends s best (by omega) hs' hb
 | succ m ih =>
  intro s best hm hs' hb
  by_cases c : s < 2 ^ g.length
  · have v0 : 0 ≤ valS g.length (fun h => rd g h) (fun h o => A.get hs h o) (fun k => rd tk k) (fun k => s.testBit k = true) := by
     rw [val_eq]
     have a1 := (tk_b g hs tk hn lt lh lr bg bt bh s g.length (Nat.le_refl _)).1
     have a2 := (gv_b g hs tk hn lt lh lr bg bt bh s g.length (Nat.le_refl _)).1
     omega
    obtain ⟨v, hv⟩ : ∃ v, v = valS g.length (fun h => rd g h) (fun h o => A.get hs h o) (fun k => rd tk k) (fun k => s.testBit k = true) := ⟨_, rfl⟩
    obtain ⟨F, hF, hF0, hF1⟩ := ih (s + 1) (if best < 0 then v else if v < best then v else best) (by omega) (by omega) (by
      right
      rw [← hv] at v0
      rcases hb with ⟨hb, rfl⟩ | ⟨hb0, hs0, hb⟩
      · rw [if_pos (by omega)]
        refine ⟨v0, by omega, fun D => ?_⟩
        rw [hv]
        constructor
        · intro hD s' hs'; obtain rfl : s' = 0 := by omega
          exact hD
        · intro hD; exact hD 0 (by omega)
      · rw [if_neg (by omega)]
        have key : ∀ D : Int, (D ≤ v ∧ D ≤ best) ↔ ∀ s', s' < s + 1 → D ≤ valS g.length (fun h => rd g h) (fun h o => A.get hs h o) (fun k => rd tk k) (fun k => s'.testBit k = true) := fun D => by
          rw [hb D, hv]
          constructor
          · rintro ⟨h1, h2⟩ s' hs'
            by_cases e : s' = s
            · subst e; exact h1
            · exact h2 s' (by omega)
          · intro h1; exact ⟨h1 s (by omega), fun s' hs' => h1 s' (by omega)⟩
        by_cases c2 : v < best
        · rw [if_pos c2]
          exact ⟨v0, by omega, fun D => by rw [← key D]; omega⟩
        · rw [if_neg c2]
          exact ⟨hb0, by omega, fun D => by rw [← key D]; omega⟩)
    refine ⟨F, ?_, hF0, hF1⟩
    have b1 := tk_b g hs tk hn lt lh lr bg bt bh s g.length (Nat.le_refl _)
    have h2 := flow_l2 g hs tk hn lt lh lr bg bt bh s (by omega) best (tkS tk s g.length) F ⟨by omega, by omega⟩ (by
      rw [hv, val_eq] at hF
      exact hF) g.length 0 (by omega) (by omega)
    obtain ⟨k0, hk0⟩ := flow_l1 g hs tk hn lt lh lr bg bt bh s (by omega) best F (by
      rw [gvS0, Int.add_zero] at h2
      exact h2) g.length 0 (by omega) (by omega)
    refine ⟨k0 + 1, fun k hk => ?_⟩
    obtain ⟨k, rfl⟩ : ∃ k', k = k' + 1 := ⟨k - 1, by omega⟩
    show kinkeepref35_relief_flow.l0 (k + 1) _ _ _ _ _ _ = _
    rw [kinkeepref35_relief_flow.l0, if_pos (by omega), shl_eq g.length (by omega), if_pos (by omega)]
    exact hk0 k (by omega)
  · exact ends s best c hs' hb
open Classical in
theorem flow_f : ∃ F, (∃ k, kinkeepref35_relief_flow.f k g hs tk = some F) ∧ 0 ≤ F ∧ ∀ D : Int, D ≤ F ↔ ∀ S : Nat → Prop, D ≤ valS g.length (fun h => rd g h) (fun h o => A.get hs h o) (fun k => rd tk k) S := by
 obtain ⟨F, ⟨k0, hk⟩, h0, h1⟩ := flow_l0 g hs tk hn lt lh lr bg bt bh (2 ^ g.length) 0 (-1) (Nat.le_refl _) (Nat.zero_le _) (Or.inl ⟨rfl, rfl⟩)
 refine ⟨F, ⟨k0, hk k0 (Nat.le_refl _)⟩, h0, fun D => (h1 D).trans ?_⟩
 constructor
 · intro h S
   obtain ⟨s, hs1, hs2⟩ := set_of g.length S
   refine Int.le_trans (h s hs1) (Int.le_of_eq ?_)
   unfold valS
   congr 1
   · refine isum_congr (fun k hk => ?_)
     by_cases c : S k
     · rw [if_pos ((hs2 k hk).2 c), if_pos c]
     · rw [if_neg (fun e => c ((hs2 k hk).1 e)), if_neg c]
   · refine isum_congr (fun h hh => ?_)
     congr 1
     refine isum_congr (fun o ho => ?_)
     have e : (∃ k, k < g.length ∧ ¬ (s.testBit k = true) ∧ okR h o k) ↔ (∃ k, k < g.length ∧ ¬ S k ∧ okR h o k) := by
      constructor
      · rintro ⟨k, a, b, c⟩; exact ⟨k, a, fun z => b ((hs2 k a).2 z), c⟩
      · rintro ⟨k, a, b, c⟩; exact ⟨k, a, fun z => b ((hs2 k a).1 z), c⟩
     by_cases c : ∃ k, k < g.length ∧ ¬ S k ∧ okR h o k
     · rw [if_pos c, if_pos (e.2 c)]
     · rw [if_neg c, if_neg (fun z => c (e.1 z))]
 · intro h s' _; exact h _
end
end Go.Proofs.Ytdljbmgknhbceaa.P
end
section
namespace Go.Proofs.Ytdljbmgknhbceaa.P
open Go.RowKit Go.Proofs.YtdljbmgknhbceaaW.PrintWords Go.Proofs.Ytdljbmgknhbceaa.Q
theorem settle_err (t : List (List Int)) (q : List Int) : (A.settleOut t q).2 = 0 ∨ ((A.settleOut t q).1 = [] ∧ ((A.settleOut t q).2 = 1 ∨ (A.settleOut t q).2 = 7)) := by
 unfold A.settleOut
 split
 · simp only
   split
   · exact Or.inr ⟨rfl, Or.inr rfl⟩
   · exact Or.inl rfl
 · exact Or.inr ⟨rfl, Or.inl rfl⟩
end Go.Proofs.Ytdljbmgknhbceaa.P
end
