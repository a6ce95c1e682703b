import Derived.Test.YtdljbmgknhbceaaM1
namespace Go.Proofs.Ytdljbmgknhbceaa.A
open Go.RowKit Go.Proofs.YtdljbmgknhbceaaW.PrintWords Go.Proofs.YtdljbmgknhbceaaW.PrintLast Go.Proofs.YtdljbmgknhbceaaW.PrintMore Go.Proofs.Ytdljbmgknhbceaa.Q
set_option linter.unusedVariables false
set_option linter.unusedSimpArgs false

/-! ### a search in a network: plain functions -/
def unv : List Int → Nat
  | [] => 0
  | x :: xs => (if x < 0 then 1 else 0) + unv xs
theorem unv_set (b : List Int) (y : Nat) (v : Int) (hy : y < b.length) (hb : b[y] < 0) (hv : 0 ≤ v) : unv (b.set y v) + 1 = unv b := by
  induction b generalizing y with
  | nil => simp at hy
  | cons x xs ih =>
    cases y with
    | zero =>
      simp only [List.getElem_cons_zero] at hb
      simp only [List.set_cons_zero, unv, if_pos hb, if_neg (show ¬ v < 0 by omega)]
      omega
    | succ y =>
      simp only [List.set_cons_succ, unv]
      have := ih y (by simpa using hy) (by simpa using hb)
      omega
theorem unv_replicate (n : Nat) : unv (List.replicate n (-1)) = n := by
  induction n with
  | zero => rfl
  | succ n ih => rw [List.replicate_succ, unv, ih]; simp; omega
def scanStep (x : Int) (row : List Int) (s : List Int × List Int) (y : Nat) : List Int × List Int :=
  if 0 < rd row y ∧ rd s.1 y < 0 then (s.1.set y x, s.2 ++ [(y : Int)]) else s
def scanTo (x : Int) (row : List Int) (s : List Int × List Int) : Nat → List Int × List Int
  | 0 => s
  | y + 1 => scanStep x row (scanTo x row s y) y
def bfs (g : List (List Int)) (tg : Int) : Nat → List Int × List Int → List Int
  | 0, s => s.1
  | f + 1, s => match s.2 with
    | [] => s.1
    | x :: q => if rd s.1 tg < 0 then bfs g tg f (scanTo x (rd_L1 g x) (s.1, q) g.length) else s.1
def initB (n : Nat) (s : Int) : List Int := (List.replicate n (-1)).set s.toNat s
def before (g : List (List Int)) (s t : Int) : List Int := bfs g t (g.length + 1) (initB g.length s, [s])
/-- The edges back from a node. -/
def trail (b : List Int) (s : Int) : Nat → Int → List (Int × Int)
  | 0, _ => []
  | f + 1, y => if y = s then [] else (rd b y, y) :: trail b s f (rd b y)
def lim (g : List (List Int)) : List (Int × Int) → Int → Int
  | [], l => l
  | e :: es, l => lim g es (min l (get g e.1 e.2))
def pushE (g : List (List Int)) (d : Int) (e : Int × Int) : List (List Int) :=
  let g1 := upd g e.1 e.2 (wrap64 (get g e.1 e.2 - d))
  upd g1 e.2 e.1 (wrap64 (get g1 e.2 e.1 + d))
def push (g : List (List Int)) (d : Int) : List (Int × Int) → List (List Int)
  | [] => g
  | e :: es => push (pushE g d e) d es
def augG (g : List (List Int)) (s t l : Int) : List (List Int) × Int :=
  let b := before g s t
  if rd b t < 0 then (g, 0) else
    let es := trail b s g.length t
    (push g (lim g es l) es, lim g es l)
def flowG (s t l : Int) : Nat → List (List Int) → Int → List (List Int) × Int
  | 0, g, sent => (g, sent)
  | f + 1, g, sent => if sent < l then (let r := augG g s t (l - sent); if r.2 = 0 then (r.1, sent) else flowG s t l f r.1 (sent + r.2)) else (g, sent)

/-- What holds of a search: b the nodes before, q the queue. -/
structure BI (g : List (List Int)) (n : Nat) (s : Int) (b q : List Int) (cl : Int → Int → Prop) : Prop where
  len : b.length = n
  rng : ∀ y : Int, 0 ≤ y → y < n → -1 ≤ rd b y ∧ rd b y < n
  root : rd b s = s
  qin : ∀ x ∈ q, 0 ≤ x ∧ x < n ∧ 0 ≤ rd b x
  tree : ∃ (rk : Int → Nat) (m : Nat), m + unv b ≤ n ∧ ∀ y : Int, 0 ≤ y → y < n → 0 ≤ rd b y → rk y < m ∧ (y ≠ s → 0 ≤ rd b (rd b y) ∧ rk (rd b y) < rk y ∧ 0 < get g (rd b y) y)
  closed : ∀ x y : Int, 0 ≤ x → x < n → 0 ≤ y → y < n → 0 ≤ rd b x → x ∉ q → cl x y → 0 < get g x y → 0 ≤ rd b y

theorem rd_lt {l : List Int} {i : Int} (i0 : 0 ≤ i) (h : i < l.length) : rd l i = l[i.toNat]'(by omega) := by
  simp [rd, List.getD_eq_getElem?_getD, List.getElem?_eq_getElem (show i.toNat < l.length by omega)]
theorem BI.step {g : List (List Int)} {n : Nat} {s x : Int} {b q : List Int} {k : Nat} {cl : Int → Int → Prop} (h : BI g n s b q (fun a y => a ≠ x ∨ y < k)) (hx0 : 0 ≤ x) (hx1 : x < n) (hxb : 0 ≤ rd b x) (hk : k < n) (hs0 : 0 ≤ s) (hs1 : s < n) :
    BI g n s (scanStep x (rd_L1 g x) (b, q) k).1 (scanStep x (rd_L1 g x) (b, q) k).2 (fun a y => a ≠ x ∨ y < ((k + 1 : Nat) : Int)) ∧ 0 ≤ rd (scanStep x (rd_L1 g x) (b, q) k).1 x ∧
      unv (scanStep x (rd_L1 g x) (b, q) k).1 + (scanStep x (rd_L1 g x) (b, q) k).2.length = unv b + q.length := by
  unfold scanStep
  by_cases hc : 0 < rd (rd_L1 g x) k ∧ rd b k < 0
  · simp only [if_pos hc]
    have hkl : (k : Int) < (b.length : Int) := by rw [h.len]; omega
    have hr : ∀ y : Int, 0 ≤ y → rd (b.set k x) y = if y = k then x else rd b y := by
      intro y y0
      have := rd_set b (k : Int) y x (by omega) hkl y0
      rwa [Int.toNat_natCast] at this
    have hks : (k : Int) ≠ s := by
      intro e; have := h.root; rw [← e] at this; omega
    have hkx : (k : Int) ≠ x := by intro e; rw [← e] at hxb; omega
    have hun : unv (b.set k x) + 1 = unv b := by
      have hk' : k < b.length := by omega
      refine unv_set b k x hk' ?_ hx0
      have := rd_lt (l := b) (i := (k : Int)) (by omega) hkl
      simp only [Int.toNat_natCast] at this
      rw [← this]; exact hc.2
    refine ⟨⟨by simp [h.len], fun y y0 y1 => ?_, ?_, fun z hz => ?_, ?_, fun a y a0 a1 y0 y1 ha haq hcl hg => ?_⟩, ?_, ?_⟩
    · rw [hr y y0]
      split
      · omega
      · exact h.rng y y0 y1
    · rw [hr s hs0, if_neg (Ne.symm hks)]; exact h.root
    · rcases List.mem_append.1 hz with hz | hz
      · obtain ⟨z0, z1, z2⟩ := h.qin z hz
        refine ⟨z0, z1, ?_⟩
        rw [hr z z0]
        split
        · exact hx0
        · exact z2
      · rw [List.mem_singleton.1 hz]
        refine ⟨by omega, by omega, ?_⟩
        rw [hr _ (by omega), if_pos rfl]; exact hx0
    · obtain ⟨rk, m, hm, ht⟩ := h.tree
      refine ⟨fun y => if y = (k : Int) then m else rk y, m + 1, by omega, fun y y0 y1 hy => ?_⟩
      rw [hr y y0] at hy ⊢
      by_cases hyk : y = (k : Int)
      · simp only [if_pos hyk]
        refine ⟨by omega, fun _ => ?_⟩
        rw [hr x hx0, if_neg (Ne.symm hkx), if_neg (Ne.symm hkx)]
        refine ⟨hxb, (ht x hx0 hx1 hxb).1, ?_⟩
        rw [hyk]; exact hc.1
      · simp only [if_neg hyk] at hy ⊢
        obtain ⟨t1, t2⟩ := ht y y0 y1 hy
        refine ⟨by omega, fun hys => ?_⟩
        obtain ⟨t3, t4, t5⟩ := t2 hys
        have hne : rd b y ≠ (k : Int) := by intro e; rw [e] at t3; omega
        rw [hr _ hy, if_neg hne, if_neg hne]
        exact ⟨t3, t4, t5⟩
    · rw [hr a a0] at ha
      rw [hr y y0]
      by_cases hyk : y = (k : Int)
      · rw [if_pos hyk]; exact hx0
      · rw [if_neg hyk]
        have hak : a ≠ (k : Int) := by intro e; exact haq (List.mem_append.2 (.inr (by simp [e])))
        rw [if_neg hak] at ha
        refine h.closed a y a0 a1 y0 y1 ha (fun hq => haq (List.mem_append.2 (.inl hq))) ?_ hg
        rcases hcl with hcl | hcl
        · exact .inl hcl
        · exact .inr (by omega)
    · rw [hr x hx0, if_neg (Ne.symm hkx)]; exact hxb
    · simp; omega
  · simp only [if_neg hc]
    refine ⟨⟨h.len, h.rng, h.root, h.qin, h.tree, fun a y a0 a1 y0 y1 ha haq hcl hg => ?_⟩, hxb, by first | rfl | trivial⟩
    by_cases hak : a ≠ x ∨ y < k
    · exact h.closed a y a0 a1 y0 y1 ha haq hak hg
    · have hak1 : a = x := by
        by_cases e : a = x
        · exact e
        · exact absurd (.inl e) hak
      have hak2 : y = (k : Int) := by
        have h1 : ¬ y < k := fun e => hak (.inr e)
        rcases hcl with hcl | hcl
        · exact absurd hak1 hcl
        · omega
      subst hak1; subst hak2
      have hg' : 0 < rd (rd_L1 g a) k := hg
      have : ¬ rd b k < 0 := fun e => hc ⟨hg', e⟩
      omega
theorem BI.scan {g : List (List Int)} {n : Nat} {s x : Int} {b q : List Int} (h : BI g n s b (x :: q) (fun _ _ => True)) (hs0 : 0 ≤ s) (hs1 : s < n) (k : Nat) (hk : k ≤ n) :
    BI g n s (scanTo x (rd_L1 g x) (b, q) k).1 (scanTo x (rd_L1 g x) (b, q) k).2 (fun a y => a ≠ x ∨ y < (k : Int)) ∧ 0 ≤ rd (scanTo x (rd_L1 g x) (b, q) k).1 x ∧
      unv (scanTo x (rd_L1 g x) (b, q) k).1 + (scanTo x (rd_L1 g x) (b, q) k).2.length = unv b + q.length := by
  obtain ⟨x0, x1, xb⟩ := h.qin x List.mem_cons_self
  induction k with
  | zero =>
    refine ⟨⟨h.len, h.rng, h.root, fun z hz => h.qin z (List.mem_cons_of_mem _ hz), h.tree, fun a y a0 a1 y0 y1 ha haq hcl hg => ?_⟩, xb, rfl⟩
    rcases hcl with hcl | hcl
    · refine h.closed a y a0 a1 y0 y1 ha (fun hm => ?_) trivial hg
      rcases List.mem_cons.1 hm with e | e
      · exact hcl e
      · exact haq e
    · have : y < 0 := hcl
      omega
  | succ k ih =>
    obtain ⟨i1, i2, i3⟩ := ih (by omega)
    obtain ⟨j1, j2, j3⟩ := BI.step (cl := fun _ _ => True) i1 x0 x1 i2 (by omega) hs0 hs1
    exact ⟨j1, j2, j3.trans i3⟩
theorem BI.scanned {g : List (List Int)} {n : Nat} {s x : Int} {b q : List Int} (h : BI g n s b (x :: q) (fun _ _ => True)) (hs0 : 0 ≤ s) (hs1 : s < n) :
    BI g n s (scanTo x (rd_L1 g x) (b, q) n).1 (scanTo x (rd_L1 g x) (b, q) n).2 (fun _ _ => True) := by
  obtain ⟨h1, _, _⟩ := h.scan hs0 hs1 n (Nat.le_refl _)
  exact ⟨h1.len, h1.rng, h1.root, h1.qin, h1.tree, fun a y a0 a1 y0 y1 ha haq _ hg => h1.closed a y a0 a1 y0 y1 ha haq (.inr y1) hg⟩
theorem BI.init (g : List (List Int)) (n : Nat) (s : Int) (hs0 : 0 ≤ s) (hs1 : s < n) : BI g n s (initB n s) [s] (fun _ _ => True) := by
  have hl : (List.replicate n (-1 : Int)).length = n := by simp
  have hr : ∀ y : Int, 0 ≤ y → y < n → rd (initB n s) y = if y = s then s else -1 := by
    intro y y0 y1
    unfold initB
    rw [rd_set _ s y s hs0 (by rw [hl]; exact hs1) y0]
    congr 1
    rw [rd_lt y0 (by rw [hl]; exact y1)]
    simp
  have hun : unv (initB n s) + 1 = n := by
    unfold initB
    rw [unv_set _ s.toNat s (by rw [hl]; omega) (by simp) hs0, unv_replicate]
  refine ⟨by simp [initB], fun y y0 y1 => ?_, by rw [hr s hs0 hs1, if_pos rfl], fun x hx => ?_, ⟨fun _ => 0, 1, by omega, fun y y0 y1 hy => ⟨Nat.zero_lt_one, fun hne => ?_⟩⟩, fun x y x0 x1 _ _ hx hxq _ _ => ?_⟩
  · rw [hr y y0 y1]; split <;> omega
  · rw [List.mem_singleton.1 hx]; exact ⟨hs0, hs1, by rw [hr s hs0 hs1, if_pos rfl]; exact hs0⟩
  · rw [hr y y0 y1, if_neg hne] at hy; omega
  · rw [hr x x0 x1] at hx
    split at hx
    · rename_i e; exact absurd (List.mem_singleton.2 e) hxq
    · omega
/-- The search's end: it found the target, or nothing leaves what it found. -/
theorem bfs_end {g : List (List Int)} {n : Nat} {s t : Int} (hgl : g.length = n) (hs0 : 0 ≤ s) (hs1 : s < n) : ∀ (f : Nat) (b q : List Int), BI g n s b q (fun _ _ => True) → unv b + q.length < f →
    ∃ q', BI g n s (bfs g t f (b, q)) q' (fun _ _ => True) ∧ (q' = [] ∨ 0 ≤ rd (bfs g t f (b, q)) t) := by
  intro f
  induction f with
  | zero => intro b q _ h; omega
  | succ f ih =>
    intro b q h hf
    cases q with
    | nil => exact ⟨[], h, .inl rfl⟩
    | cons x q =>
      rw [bfs]
      by_cases ht : rd b t < 0
      · simp only [if_pos ht]
        obtain ⟨_, _, h3⟩ := h.scan hs0 hs1 n (Nat.le_refl _)
        rw [hgl]
        exact ih _ _ (h.scanned hs0 hs1) (by simp at hf; omega)
      · simp only [if_neg ht]
        exact ⟨x :: q, h, .inr (by show 0 ≤ rd b t; omega)⟩

end Go.Proofs.Ytdljbmgknhbceaa.A

namespace Go.Proofs.Ytdljbmgknhbceaa.A
open Go.RowKit Go.Proofs.YtdljbmgknhbceaaW.PrintWords Go.Proofs.YtdljbmgknhbceaaW.PrintLast Go.Proofs.YtdljbmgknhbceaaW.PrintMore Go.Proofs.Ytdljbmgknhbceaa.Q
set_option linter.unusedVariables false
set_option linter.unusedSimpArgs false

/-! ### what Settle computes -/
def unlim : Int := 1125899906842624
def nodeH (f : Int) : Int := 2 + f
def nodeT (n : Nat) (t : Int) : Int := 2 + n + t
def nodeP (n : Nat) (f o : Int) : Int := 2 + 2 * n + f * n + o
def netSize (n : Nat) : Nat := 2 + 2 * n + n * n
def sT (n : Nat) (has q : List Int) (f o : Int) (s : List (List Int) × List S29) (k : Nat) : List (List Int) × List S29 :=
  if o ≠ f ∧ (k : Int) ≠ f ∧ (k : Int) ≠ o ∧ rd has k ≤ rd q k then (upd s.1 (nodeP n f o) (nodeT n k) unlim, s.2 ++ [⟨f, k, o, 0⟩]) else s
def sTto (n : Nat) (has q : List Int) (f o : Int) (s : List (List Int) × List S29) : Nat → List (List Int) × List S29
  | 0 => s
  | k + 1 => sT n has q f o (sTto n has q f o s k) k
def sO (n : Nat) (has q : List Int) (t : List (List Int)) (f : Int) (s : List (List Int) × List S29) (o : Nat) : List (List Int) × List S29 :=
  sTto n has q f o (upd s.1 (nodeH f) (nodeP n f o) (get t f o), s.2) n
def sOto (n : Nat) (has q : List Int) (t : List (List Int)) (f : Int) (s : List (List Int) × List S29) : Nat → List (List Int) × List S29
  | 0 => s
  | k + 1 => sO n has q t f (sOto n has q t f s k) k
def sF (n : Nat) (has q : List Int) (t : List (List Int)) (s : List (List Int) × Int × List S29) (f : Nat) : List (List Int) × Int × List S29 :=
  if rd has f ≤ rd q f then (upd s.1 (nodeT n f) 1 (wrap64 (rd q f - rd has f)), s.2.1, s.2.2)
  else
    let r := sOto n has q t f (upd s.1 0 (nodeH f) (wrap64 (rd has f - rd q f)), s.2.2) n
    (r.1, wrap64 (s.2.1 + wrap64 (rd has f - rd q f)), r.2)
def sFto (n : Nat) (has q : List Int) (t : List (List Int)) (s : List (List Int) × Int × List S29) : Nat → List (List Int) × Int × List S29
  | 0 => s
  | k + 1 => sF n has q t (sFto n has q t s k) k
def zeroNet (n : Nat) : List (List Int) := List.replicate (netSize n) (List.replicate (netSize n) 0)
def buildNet (t : List (List Int)) (q : List Int) : List (List Int) × Int × List S29 := sFto t.length (heldT t) q t (zeroNet t.length, 0, []) t.length
def settleStep (n : Nat) (s : List (List Int) × List S29) (m : S29) : List (List Int) × List S29 :=
  let x := nodeP n m.f0 m.f2
  let y := nodeT n m.f1
  let r := flowG y x unlim unlim.toNat (upd (upd s.1 x y 0) y x 0) 0
  let b := wrap64 (get s.1 y x + r.2)
  (r.1, if 0 < b then s.2 ++ [⟨m.f0, m.f1, m.f2, b⟩] else s.2)
def settleGo (n : Nat) : List S29 → List (List Int) × List S29 → List (List Int) × List S29
  | [], s => s
  | m :: ms, s => settleGo n ms (settleStep n s m)
def settleOut (t : List (List Int)) (q : List Int) : List S29 × Int :=
  if fitsT t q = true then
    let b := buildNet t q
    let r := flowG 0 1 b.2.1 b.2.1.toNat b.1 0
    if r.2 < b.2.1 then ([], 7) else ((settleGo t.length b.2.2 (r.1, [])).2, 0)
  else ([], 1)

theorem nodeP_lt (n : Nat) (f o : Int) (f0 : 0 ≤ f) (f1 : f < n) (o0 : 0 ≤ o) (o1 : o < n) : 2 + 2 * (n : Int) ≤ nodeP n f o ∧ nodeP n f o < (netSize n : Int) := by
  have h1 : 0 ≤ f * (n : Int) := Int.mul_nonneg f0 (by omega)
  have h2 : f * (n : Int) ≤ ((n : Int) - 1) * (n : Int) := Int.mul_le_mul_of_nonneg_right (by omega) (by omega)
  have h3 : ((n : Int) - 1) * (n : Int) = (n : Int) * (n : Int) - n := by rw [Int.sub_mul]; omega
  have h4 : (netSize n : Int) = 2 + 2 * (n : Int) + (n : Int) * (n : Int) := by unfold netSize; push_cast; rfl
  rw [h4]
  unfold nodeP
  omega
theorem nodeT_lt (n : Nat) (t : Int) (t0 : 0 ≤ t) (t1 : t < n) : 0 ≤ nodeT n t ∧ nodeT n t < (netSize n : Int) := by
  have h4 : (netSize n : Int) = 2 + 2 * (n : Int) + (n : Int) * (n : Int) := by unfold netSize; push_cast; rfl
  have h5 : 0 ≤ (n : Int) * (n : Int) := Int.mul_nonneg (by omega) (by omega)
  rw [h4]
  unfold nodeT
  omega
theorem nodeH_lt (n : Nat) (t : Int) (t0 : 0 ≤ t) (t1 : t < n) : 0 ≤ nodeH t ∧ nodeH t < (netSize n : Int) := by
  have h4 : (netSize n : Int) = 2 + 2 * (n : Int) + (n : Int) * (n : Int) := by unfold netSize; push_cast; rfl
  have h5 : 0 ≤ (n : Int) * (n : Int) := Int.mul_nonneg (by omega) (by omega)
  rw [h4]
  unfold nodeH
  omega
theorem zeroNet_sq (n : Nat) : Sqn (netSize n) (zeroNet n) := by
  refine ⟨by simp [zeroNet], fun i i0 i1 => ?_⟩
  unfold zeroNet rd_L1
  rw [List.getD_eq_getElem?_getD, List.getElem?_replicate, if_pos (by omega)]
  simp
/-! ### bounds -/
theorem wsum_bound : ∀ (l : List Int) (s : Int), (∀ x ∈ l, 0 ≤ x ∧ x ≤ 1099511627776) → 0 ≤ s → s + l.length * 1099511627776 ≤ 1152921504606846976 → s ≤ wsum l s ∧ wsum l s ≤ s + l.length * 1099511627776 := by
  intro l
  induction l with
  | nil => intro s _ h0 h1; simp [wsum]
  | cons x xs ih =>
    intro s hx h0 h1
    obtain ⟨x0, x1⟩ := hx x List.mem_cons_self
    simp only [List.length_cons] at h1
    have hw : wrap64 (s + x) = s + x := by unfold wrap64; omega
    rw [wsum, hw]
    have := ih (s + x) (fun y hy => hx y (List.mem_cons_of_mem _ hy)) (by omega) (by omega)
    simp only [List.length_cons]
    omega
theorem held_bound {t : List (List Int)} (h : validT t = true) (f : Int) (f0 : 0 ≤ f) (f1 : f < t.length) : 0 ≤ rd (heldT t) f ∧ rd (heldT t) f ≤ 13194139533312 := by
  obtain ⟨k, rfl⟩ := Int.eq_ofNat_of_zero_le f0
  rw [rd_held t k (by omega)]
  have hm : rd_L1 t (k : Int) ∈ t := by
    unfold rd_L1
    rw [Int.toNat_natCast, List.getD_eq_getElem?_getD, List.getElem?_eq_getElem (show k < t.length by omega)]
    exact List.getElem_mem _
  have hr := (valid_sq h).2 _ hm
  have hn := (valid_sq h).1
  have hb := hr.2
  rw [badAny, List.any_eq_false] at hb
  have := wsum_bound (rd_L1 t (k : Int)) 0 (fun x hx => by simpa [okN] using hb x hx) (by omega) (by omega)
  omega
theorem quota_bound {t : List (List Int)} {q : List Int} (h : fitsT t q = true) (f : Int) (f0 : 0 ≤ f) (f1 : f < t.length) : 0 ≤ rd q f ∧ rd q f ≤ 1099511627776 := by
  simp only [fitsT, Bool.and_eq_true, decide_eq_true_eq, Bool.not_eq_true'] at h
  obtain ⟨_, hl, hb⟩ := h
  rw [badAny, List.any_eq_false] at hb
  have hf : f.toNat < q.length := by omega
  have := hb (q[f.toNat]) (List.getElem_mem hf)
  have e : rd q f = q[f.toNat] := by simp [rd, List.getD_eq_getElem?_getD, List.getElem?_eq_getElem hf]
  rw [e]
  simpa [okN] using this

end Go.Proofs.Ytdljbmgknhbceaa.A
