import Derived.Test.YtdljbmgknhbceaaQx47
import Derived.Test.YtdljbmgknhbceaaMc
namespace Go.Proofs.Ytdljbmgknhbceaa.Pure
open Go.RowKit Go.Proofs.YtdljbmgknhbceaaW.PrintWords Go.Proofs.Ytdljbmgknhbceaa.Q Go.Proofs.Ytdljbmgknhbceaa.P
set_option linter.unusedVariables false
set_option linter.unusedSimpArgs false
set_option linter.unusedSectionVars false

/-! ### what ordered computes -/
def rdB (l : List Bool) (i : Nat) : Bool := rdOf false l (i : Int)
theorem rdB_eq (l : List Bool) (i : Nat) (h : i < l.length) : rdB l i = l[i] := by simp [rdB, rdOf, List.getD_eq_getElem?_getD, List.getElem?_eq_getElem h]
theorem rdB_set (l : List Bool) (i q : Nat) (v : Bool) (h : i < l.length) (hq : q < l.length) : rdB (l.set i v) q = if q = i then v else rdB l q := by
  rw [rdB_eq _ q (by simpa using hq), rdB_eq l q hq, List.getElem_set]
  by_cases e : i = q
  · rw [if_pos e, if_pos e.symm]
  · rw [if_neg e, if_neg (fun h => e h.symm)]
def okB (t : List (List Int)) (g : List Bool) (h q : Nat) : Bool := rdB g q || (A.get t h q == 0)
def freeB (t : List (List Int)) (g : List Bool) (n h : Nat) : Bool := (List.range n).all (okB t g h)
def swp (t : List (List Int)) (n : Nat) : Nat → Nat → List Bool → List Bool
  | 0, _, g => g
  | m + 1, h, g => swp t n m (h + 1) (g.set h (rdB g h || freeB t g n h))
def rnds (t : List (List Int)) (n : Nat) : Nat → List Bool → List Bool
  | 0, g => g
  | r + 1, g => rnds t n r (swp t n n 0 g)
def allT (n : Nat) (g : List Bool) : Bool := (List.range n).all (rdB g)
theorem swp_len (t : List (List Int)) (n : Nat) : ∀ (m h : Nat) (g : List Bool), (swp t n m h g).length = g.length := by
  intro m
  induction m with
  | zero => intro h g; rfl
  | succ m ih => intro h g; rw [swp, ih, List.length_set]
theorem drop_range (n o : Nat) (h : o < n) : (List.range n).drop o = o :: (List.range n).drop (o + 1) := by
  rw [List.drop_eq_getElem_cons (by simpa using h), List.getElem_range]
section
variable {n : Nat} {t : List (List Int)} (hn : t.length = n) (h12 : n ≤ 12) (hsq : A.Sqn n t)
include hn h12 hsq
theorem ord_l3 (g : List Bool) (hg : g.length = n) : ∀ (m i : Nat), n - i ≤ m → i ≤ n → ∃ k, kinkeeplaw35_ordered.l3 k t g (i : Int) = some (((List.range n).drop i).all (rdB g)) := by
  have ends : ∀ i : Nat, n ≤ i → ∃ k, kinkeeplaw35_ordered.l3 k t g (i : Int) = some (((List.range n).drop i).all (rdB g)) := by
    intro i hi
    refine ⟨1, ?_⟩
    rw [kinkeeplaw35_ordered.l3, if_neg (by omega), List.drop_of_length_le (by simpa using hi)]
    rfl
  intro m
  induction m with
  | zero => intro i h1 h2; exact ends i (by omega)
  | succ m ih =>
    intro i h1 h2
    by_cases h : i < n
    · have hw : wrap64 ((i : Int) + 1) = ((i + 1 : Nat) : Int) := by rw [w64 (by omega)]; rfl
      obtain ⟨k, hk⟩ := ih (i + 1) (by omega) (by omega)
      refine ⟨k + 1, ?_⟩
      rw [kinkeeplaw35_ordered.l3, if_pos (by omega), if_pos (by omega), if_pos (by omega), drop_range n i h, List.all_cons]
      cases c : rdB g i with
      | true => rw [if_pos (show rdOf false g (i : Int) = true from c), hw, hk]; rfl
      | false => rw [if_neg (show ¬ rdOf false g (i : Int) = true from by rw [show rdOf false g (i : Int) = false from c]; simp)]; rfl
    · exact ends i (by omega)
theorem ord_l2 (g : List Bool) (hg : g.length = n) (r h : Nat) (hh : h < n) (res : Bool) : ∀ (m o : Nat) (fr : Bool), n - o ≤ m → o ≤ n →
    (∃ k, kinkeeplaw35_ordered.l1 k t (g.set h (rdB g h || (fr && ((List.range n).drop o).all (okB t g h)))) (r : Int) ((h + 1 : Nat) : Int) = some res) → ∃ k, kinkeeplaw35_ordered.l2 k t g (r : Int) (h : Int) fr (o : Int) = some res := by
  have hwh : wrap64 ((h : Int) + 1) = ((h + 1 : Nat) : Int) := by rw [w64 (by omega)]; rfl
  have ends : ∀ (o : Nat) (fr : Bool), n ≤ o → (∃ k, kinkeeplaw35_ordered.l1 k t (g.set h (rdB g h || (fr && ((List.range n).drop o).all (okB t g h)))) (r : Int) ((h + 1 : Nat) : Int) = some res) → ∃ k, kinkeeplaw35_ordered.l2 k t g (r : Int) (h : Int) fr (o : Int) = some res := by
    intro o fr ho ⟨k, hk⟩
    refine ⟨k + 1, ?_⟩
    rw [List.drop_of_length_le (by simpa using ho), List.all_nil, Bool.and_true] at hk
    rw [kinkeeplaw35_ordered.l2, if_neg (by omega), if_pos (by omega), if_pos (by omega), hwh, Int.toNat_natCast]
    cases c : rdB g h with
    | true => rw [if_pos (show rdOf false g (h : Int) = true from c)]; rw [c, Bool.true_or] at hk; exact hk
    | false => rw [if_neg (show ¬ rdOf false g (h : Int) = true from by rw [show rdOf false g (h : Int) = false from c]; simp)]; rw [c, Bool.false_or] at hk; exact hk
  intro m
  induction m with
  | zero => intro o fr h1 h2 hk; exact ends o fr (by omega) hk
  | succ m ih =>
    intro o fr h1 h2 hk
    by_cases ho : o < n
    · have hw : wrap64 ((o : Int) + 1) = ((o + 1 : Nat) : Int) := by rw [w64 (by omega)]; rfl
      rw [drop_range n o ho, List.all_cons] at hk
      have hl := hsq.2 h (by omega) (by omega)
      cases fr with
      | false =>
        rw [Bool.false_and] at hk
        obtain ⟨k, hk⟩ := ih (o + 1) false (by omega) (by omega) (by rw [Bool.false_and]; exact hk)
        refine ⟨k + 1, ?_⟩
        rw [kinkeeplaw35_ordered.l2, if_pos (by omega), if_neg (by simp), hw]
        exact hk
      | true =>
        rw [Bool.true_and] at hk
        cases c : rdB g o with
        | true =>
          rw [show okB t g h o = true from by rw [okB, c, Bool.true_or], Bool.true_and] at hk
          obtain ⟨k, hk⟩ := ih (o + 1) true (by omega) (by omega) (by rw [Bool.true_and]; exact hk)
          refine ⟨k + 1, ?_⟩
          rw [kinkeeplaw35_ordered.l2, if_pos (by omega), if_pos rfl, if_pos (by omega), if_pos (by omega), if_pos (show rdOf false g (o : Int) = true from c), hw]
          exact hk
        | false =>
          rw [show okB t g h o = (A.get t h o == 0) from by rw [okB, c, Bool.false_or]] at hk
          obtain ⟨k, hk⟩ := ih (o + 1) (A.get t h o == 0) (by omega) (by omega) hk
          refine ⟨k + 1, ?_⟩
          rw [kinkeeplaw35_ordered.l2, if_pos (by omega), if_pos rfl, if_pos (by omega), if_pos (by omega), if_neg (show ¬ rdOf false g (o : Int) = true from by rw [show rdOf false g (o : Int) = false from c]; simp), if_pos (by omega), if_pos (by omega), if_pos (by omega), hw]
          exact hk
    · exact ends o fr (by omega) hk
theorem ord_l1 (r : Nat) (hr : r < n) (res : Bool) : ∀ (m h : Nat) (g : List Bool), n - h = m → h ≤ n → g.length = n → (∃ k, kinkeeplaw35_ordered.l0 k t (swp t n m h g) ((r + 1 : Nat) : Int) = some res) → ∃ k, kinkeeplaw35_ordered.l1 k t g (r : Int) (h : Int) = some res := by
  have hwr : wrap64 ((r : Int) + 1) = ((r + 1 : Nat) : Int) := by rw [w64 (by omega)]; rfl
  intro m
  induction m with
  | zero =>
    intro h g h1 h2 hg ⟨k, hk⟩
    refine ⟨k + 1, ?_⟩
    rw [kinkeeplaw35_ordered.l1, if_neg (by omega), hwr]
    exact hk
  | succ m ih =>
    intro h g h1 h2 hg hk
    obtain ⟨k, hk⟩ := ord_l2 hn h12 hsq g hg r h (by omega) res n 0 true (by omega) (by omega) (by
      rw [List.drop_zero, Bool.true_and]
      exact ih (h + 1) _ (by omega) (by omega) (by rw [List.length_set]; exact hg) hk)
    refine ⟨k + 1, ?_⟩
    rw [kinkeeplaw35_ordered.l1, if_pos (by omega)]
    exact hk
theorem ord_l0 : ∀ (m r : Nat) (g : List Bool), n - r = m → r ≤ n → g.length = n → ∃ k, kinkeeplaw35_ordered.l0 k t g (r : Int) = some (allT n (rnds t n m g)) := by
  intro m
  induction m with
  | zero =>
    intro r g h1 h2 hg
    obtain ⟨k, hk⟩ := ord_l3 hn h12 hsq g hg n 0 (by omega) (by omega)
    refine ⟨k + 1, ?_⟩
    rw [kinkeeplaw35_ordered.l0, if_neg (by omega)]
    exact hk
  | succ m ih =>
    intro r g h1 h2 hg
    obtain ⟨k, hk⟩ := ord_l1 hn h12 hsq r (by omega) _ n 0 g (by omega) (by omega) hg (ih (r + 1) (swp t n n 0 g) (by omega) (by omega) (by rw [swp_len]; exact hg))
    refine ⟨k + 1, ?_⟩
    rw [kinkeeplaw35_ordered.l0, if_pos (by omega)]
    exact hk
theorem ord_f : ∃ k, kinkeeplaw35_ordered.f k t = some (allT n (rnds t n n (List.replicate n false))) := by
  obtain ⟨k, hk⟩ := ord_l0 hn h12 hsq n 0 (List.replicate n false) (by omega) (by omega) (by simp)
  refine ⟨k, ?_⟩
  unfold kinkeeplaw35_ordered.f
  rw [if_pos (by omega), if_pos (by rw [Int.toNat_natCast]; omega), Int.toNat_natCast, hn]
  exact hk
end

/-! ### no cycle: ordered -/
theorem free_mono {t : List (List Int)} {n h : Nat} {g g' : List Bool} (hm : ∀ q, q < n → rdB g q = true → rdB g' q = true) (hf : freeB t g n h = true) : freeB t g' n h = true := by
  rw [freeB, List.all_eq_true] at hf ⊢
  intro q hq
  have := hf q hq
  have hq := List.mem_range.1 hq
  rw [okB, Bool.or_eq_true] at this ⊢
  rcases this with h | h
  · exact Or.inl (hm q hq h)
  · exact Or.inr h
theorem swp_up (t : List (List Int)) (n : Nat) : ∀ (m h : Nat) (g : List Bool), g.length = n → h + m ≤ n → (∀ q, q < n → rdB g q = true → rdB (swp t n m h g) q = true) ∧ (∀ q, h ≤ q → q < h + m → freeB t g n q = true → rdB (swp t n m h g) q = true) := by
  intro m
  induction m with
  | zero => intro h g hg hm; exact ⟨fun q _ h => h, fun q h1 h2 _ => by omega⟩
  | succ m ih =>
    intro h g hg hm
    rw [swp]
    have hs : ∀ q, q < n → rdB g q = true → rdB (g.set h (rdB g h || freeB t g n h)) q = true := fun q hq hv => by
      rw [rdB_set g h q _ (by omega) (by omega)]
      by_cases e : q = h
      · rw [if_pos e, ← e, hv, Bool.true_or]
      · rw [if_neg e]; exact hv
    obtain ⟨h1, h2⟩ := ih (h + 1) (g.set h (rdB g h || freeB t g n h)) (by rw [List.length_set]; exact hg) (by omega)
    refine ⟨fun q hq hv => h1 q hq (hs q hq hv), fun q q1 q2 hf => ?_⟩
    by_cases e : q = h
    · refine h1 q (by omega) ?_
      rw [rdB_set g h q _ (by omega) (by omega), if_pos e, ← e, hf, Bool.or_true]
    · exact h2 q (by omega) (by omega) (free_mono hs hf)
def cnt (n : Nat) (g : List Bool) : Int := isum (fun i => if rdB g i = true then 1 else 0) n
theorem isum_le (f g : Nat → Int) : ∀ n, (∀ i, i < n → f i ≤ g i) → isum f n ≤ isum g n := by
  intro n
  induction n with
  | zero => intro _; exact Int.le_refl _
  | succ n ih =>
    intro h
    have h1 := ih (fun i hi => h i (by omega))
    have h2 := h n (by omega)
    rw [isum, isum]; omega
theorem isum_lt (f g : Nat → Int) : ∀ n, (∀ i, i < n → f i ≤ g i) → (∃ i, i < n ∧ f i < g i) → isum f n < isum g n := by
  intro n
  induction n with
  | zero => rintro _ ⟨i, hi, _⟩; omega
  | succ n ih =>
    rintro h ⟨i, hi, hlt⟩
    have h2 := h n (by omega)
    rw [isum, isum]
    by_cases e : i = n
    · subst e
      have h1 := isum_le f g i (fun i hi => h i (by omega))
      omega
    · have h1 := ih (fun i hi => h i (by omega)) ⟨i, by omega, hlt⟩
      omega
theorem cnt_all (n : Nat) (g : List Bool) (h : (n : Int) ≤ cnt n g) : allT n g = true := by
  rw [allT, List.all_eq_true]
  intro q hq
  have hq := List.mem_range.1 hq
  cases c : rdB g q with
  | true => rfl
  | false =>
    exfalso
    have h1 := isum_lt (fun i => if rdB g i = true then 1 else 0) (fun _ => 1) n (fun i _ => by (try simp only); split <;> omega) ⟨q, hq, by simp only [c]; simp⟩
    have h2 : ∀ m : Nat, isum (fun _ => 1) m = (m : Int) := by
      intro m
      induction m with
      | zero => rfl
      | succ m ih => rw [isum, ih]; omega
    have h3 := h2 n
    unfold cnt at h
    omega
theorem all_cnt (n : Nat) (g : List Bool) (h : allT n g = true) : cnt n g = n := by
  rw [allT, List.all_eq_true] at h
  unfold cnt
  rw [isum_congr (g := fun _ => 1) (fun i hi => by rw [h i (List.mem_range.2 hi)]; rfl)]
  have h2 : ∀ m : Nat, isum (fun _ => 1) m = (m : Int) := by
    intro m
    induction m with
    | zero => rfl
    | succ m ih => rw [isum, ih]; omega
  exact h2 n
theorem swp_more {n : Nat} {t : List (List Int)} (hg : A.Good n t) (hd : ∀ i : Nat, i < n → A.get t i i = 0) (hc : ∀ L : Nat, 2 ≤ L → L ≤ n → A.cycleOf t L = []) (g : List Bool) (hl : g.length = n) :
    (n : Int) ≤ cnt n (swp t n n 0 g) ∨ cnt n g + 1 ≤ cnt n (swp t n n 0 g) := by
  obtain ⟨h1, h2⟩ := swp_up t n n 0 g hl (by omega)
  have hle : ∀ i, i < n → (if rdB g i = true then (1 : Int) else 0) ≤ (if rdB (swp t n n 0 g) i = true then 1 else 0) := fun i hi => by
    by_cases c : rdB g i = true
    · rw [if_pos c, if_pos (h1 i hi c)]; omega
    · rw [if_neg c]; split <;> omega
  cases c : allT n g with
  | true =>
    left
    have := all_cnt n g c
    have h3 := isum_le _ _ n hle
    unfold cnt at this ⊢
    omega
  | false =>
    right
    rw [allT, List.all_eq_false] at c
    obtain ⟨s, hs, hs2⟩ := c
    have hs := List.mem_range.1 hs
    have hs2 : rdB g s = false := by simpa using hs2
    by_cases e : ∃ q, q < n ∧ rdB g q = false ∧ freeB t g n q = true
    · obtain ⟨q, hq, e1, e2⟩ := e
      have e3 := h2 q (by omega) (by omega) e2
      have := isum_lt _ _ n hle ⟨q, hq, by rw [e1, e3]; simp⟩
      unfold cnt
      omega
    · exfalso
      obtain ⟨L, f, hF, l1, l2⟩ := closed_cycle hg hd (fun q => rdB g q = false) s ⟨hs2, hs⟩ (fun h hh hn => by
        cases c : freeB t g n h with
        | true => exact absurd ⟨h, hn, hh, c⟩ e
        | false =>
          rw [freeB, List.all_eq_false] at c
          obtain ⟨o, ho, ho2⟩ := c
          have ho2 : okB t g h o = false := by simpa using ho2
          rw [okB, Bool.or_eq_false_iff] at ho2
          exact ⟨o, ho2.1, List.mem_range.1 ho, by simpa using ho2.2⟩)
      exact found_any hg.1.1 hF (hc L l1 l2)
theorem rnds_all {n : Nat} {t : List (List Int)} (hg : A.Good n t) (hd : ∀ i : Nat, i < n → A.get t i i = 0) (hc : ∀ L : Nat, 2 ≤ L → L ≤ n → A.cycleOf t L = []) : ∀ (r : Nat) (g : List Bool), g.length = n → (n : Int) ≤ cnt n g + r → allT n (rnds t n r g) = true := by
  intro r
  induction r with
  | zero => intro g hl h; exact cnt_all n g (by omega)
  | succ r ih =>
    intro g hl h
    rw [rnds]
    refine ih _ (by rw [swp_len]; exact hl) ?_
    rcases swp_more hg hd hc g hl with h1 | h1 <;> omega

/-! ### ordered: no cycle -/
theorem swp_cyc {n : Nat} {t : List (List Int)} {c : List Int} (h : A.Cyc n t c) : ∀ (m q : Nat) (g : List Bool), g.length = n → q + m ≤ n → (∀ i, i < c.length → rdB g (rd c i).toNat = false) → ∀ i, i < c.length → rdB (swp t n m q g) (rd c i).toNat = false := by
  intro m
  induction m with
  | zero => intro q g hg hm hi; exact hi
  | succ m ih =>
    intro q g hg hm hi
    rw [swp]
    refine ih (q + 1) _ (by rw [List.length_set]; exact hg) (by omega) (fun i hl => ?_)
    have hin := h.ins i hl
    rw [rdB_set g q _ _ (by omega) (by omega)]
    by_cases e : (rd c i).toNat = q
    · rw [if_pos e, ← e, hi i hl, Bool.false_or]
      cases cf : freeB t g n (rd c i).toNat with
      | false => rfl
      | true =>
        exfalso
        rw [freeB, List.all_eq_true] at cf
        have hx := A.nxt_in h i
        have := cf (A.nxt c i).toNat (List.mem_range.2 (by omega))
        rw [okB, Bool.or_eq_true] at this
        rcases this with e1 | e1
        · have := hi ((i + 1) % c.length) (Nat.mod_lt _ h.pos)
          unfold A.nxt at e1
          rw [this] at e1
          cases e1
        · have e2 : A.get t ((rd c i).toNat : Nat) ((A.nxt c i).toNat : Nat) = 0 := by simpa using e1
          have := h.edge i hl
          rw [get_nat] at this
          omega
    · rw [if_neg e]; exact hi i hl
theorem rnds_cyc {n : Nat} {t : List (List Int)} {c : List Int} (h : A.Cyc n t c) : ∀ (r : Nat) (g : List Bool), g.length = n → (∀ i, i < c.length → rdB g (rd c i).toNat = false) → ∀ i, i < c.length → rdB (rnds t n r g) (rd c i).toNat = false := by
  intro r
  induction r with
  | zero => intro g hg hi; exact hi
  | succ r ih =>
    intro g hg hi
    rw [rnds]
    exact ih _ (by rw [swp_len]; exact hg) (swp_cyc h n 0 g hg (by omega) hi)
theorem ordered_none {n : Nat} {t : List (List Int)} (hg : A.Good n t) (ho : allT n (rnds t n n (List.replicate n false)) = true) (L : Nat) (hL : 1 ≤ L) : A.cycleOf t L = [] := by
  by_cases e : A.cycleOf t L = []
  · exact e
  · exfalso
    obtain ⟨hc, hl⟩ := A.cycle_cyc hg L hL e
    have := rnds_cyc hc n (List.replicate n false) (by simp) (fun i hi => by
      have := hc.ins i hi
      rw [rdB_eq _ _ (by rw [List.length_replicate]; omega)]
      simp) 0 hc.pos
    rw [allT, List.all_eq_true] at ho
    have hin := hc.ins 0 hc.pos
    have h2 := ho (rd (A.cycleOf t L) ((0 : Nat) : Int)).toNat (List.mem_range.2 (by omega))
    rw [this] at h2
    cases h2

/-! ### the law -/
theorem bF_B {n : Nat} {t : List (List Int)} (hn : t.length = n) (d : Nat) (hd : d < n) : bF t n 0 d = B n t d := by
  have := bF_all t d (by omega)
  rw [hn] at this
  exact this
section
variable {n : Nat} {t c : List (List Int)} (hn : t.length = n) (h12 : n ≤ 12) (hg : A.Good n t) (hL : Less n t c)
include hn h12 hg hL
theorem acy_l1 (i : Nat) (hi : i < n) (hk : ∃ k, kinkeeplaw35_QuotaAcyclic.l0 k t c ((i + 1 : Nat) : Int) = some true) : ∀ (m j : Nat), n - j ≤ m → j ≤ n → ∃ k, kinkeeplaw35_QuotaAcyclic.l1 k t c (i : Int) (j : Int) = some true := by
  have hwi : wrap64 ((i : Int) + 1) = ((i + 1 : Nat) : Int) := by rw [w64 (by omega)]; rfl
  have ends : ∀ j : Nat, n ≤ j → ∃ k, kinkeeplaw35_QuotaAcyclic.l1 k t c (i : Int) (j : Int) = some true := by
    intro j hj
    obtain ⟨k, hk⟩ := hk
    refine ⟨k + 1, ?_⟩
    rw [kinkeeplaw35_QuotaAcyclic.l1, if_neg (by omega), hwi]
    exact hk
  intro m
  induction m with
  | zero => intro j h1 h2; exact ends j (by omega)
  | succ m ih =>
    intro j h1 h2
    by_cases h : j < n
    · have hw : wrap64 ((j : Int) + 1) = ((j + 1 : Nat) : Int) := by rw [w64 (by omega)]; rfl
      obtain ⟨k, hk⟩ := ih (j + 1) (by omega) (by omega)
      have l1 := hg.1.2 i (by omega) (by omega)
      have l2 := hL.good.1.2 i (by omega) (by omega)
      have l3 := hL.good.1.1
      have b1 := hL.le i j (by omega) (by omega) (by omega) (by omega)
      have b2 := hL.good.2 i j (by omega) (by omega) (by omega) (by omega)
      refine ⟨k + 1, ?_⟩
      rw [kinkeeplaw35_QuotaAcyclic.l1, if_pos (by omega), if_pos (by omega), if_pos (by omega), if_pos (by omega), if_pos (by omega), if_pos (by omega), if_pos (by omega)]
      have e1 : rd (rd_L1 c i) j = A.get c i j := rfl
      have e2 : rd (rd_L1 t i) j = A.get t i j := rfl
      rw [e1, e2, if_neg (by omega), if_neg (by omega), hw]
      exact hk
    · exact ends j (by omega)
theorem acy_l0 (hend : ∃ k, kinkeeplaw35_QuotaAcyclic.l0 k t c (n : Int) = some true) : ∀ (m i : Nat), n - i ≤ m → i ≤ n → ∃ k, kinkeeplaw35_QuotaAcyclic.l0 k t c (i : Int) = some true := by
  intro m
  induction m with
  | zero => intro i h1 h2; obtain rfl : i = n := by omega
            exact hend
  | succ m ih =>
    intro i h1 h2
    by_cases h : i < n
    · obtain ⟨k, hk⟩ := acy_l1 hn h12 hg hL i h (ih (i + 1) (by omega) (by omega)) n 0 (by omega) (by omega)
      refine ⟨k + 1, ?_⟩
      rw [kinkeeplaw35_QuotaAcyclic.l0, if_pos (by omega)]
      exact hk
    · obtain rfl : i = n := by omega
      exact hend
end
theorem quotaAcyclic (t : List (List Int)) (_h0 : ∀ row ∈ t, ∀ x ∈ row, (Lit.int .i64 x).wf = true) : ∃ k, kinkeeplaw35_QuotaAcyclic.f k t = some true := by
  cases hv : A.validT t with
  | false =>
    refine ⟨1, ?_⟩
    have e : A.cancelOut t = ([], 1) := by simp [A.cancelOut, hv]
    simp only [kinkeeplaw35_QuotaAcyclic.f, kinkeeplaw35_awake.f, Option.bind_some, if_true, quota_Cancel.f, e, quota_Valid.f, hv]
    rfl
  | true =>
    have h12 := (A.valid_sq hv).1
    have hg := A.valid_good hv
    generalize hn : t.length = n at h12 hg
    have hd : ∀ i : Nat, i < n → A.get t i i = 0 := fun i hi => valid_diag hv i (by omega)
    have hcd : A.cancelT t = A.cancelFrom (n - 1) 2 t := by rw [A.cancelT, hn]
    have e : A.cancelOut t = (A.cancelT t, 0) := by simp [A.cancelOut, hv]
    generalize hc : A.cancelT t = c at hcd e
    have hL : Less n t c := by rw [hcd]; exact Less.from (n - 1) 2 (by omega) t hg
    have hcl : c.length = n := hL.good.1.1
    have hz : ∀ L : Nat, 2 ≤ L → L ≤ n → A.cycleOf c L = [] := fun L l1 l2 => by rw [hcd]; exact from_done (n - 1) 2 (by omega) t hg L l1 (by omega)
    have hcdiag : ∀ i : Nat, i < n → A.get c i i = 0 := fun i hi => by
      have h1 := hL.le i i (by omega) (by omega) (by omega) (by omega)
      have h2 := hL.good.2 i i (by omega) (by omega) (by omega) (by omega)
      have := hd i hi
      omega
    have hvc : A.validT c = true := valid_of_good hL.good h12 hcdiag
    have hcc : A.cancelT c = c := by rw [A.cancelT, hcl]; exact from_none (n - 1) 2 c (fun m m1 m2 => hz m m1 (by omega))
    have e2 : A.cancelOut c = (c, 0) := by simp [A.cancelOut, hvc, hcc]
    have hbal : A.balT t = A.balT c := by
      rw [balT_eq hv, balT_eq hvc, hn, hcl]
      refine List.map_congr_left (fun d hdm => ?_)
      have hdm := List.mem_range.1 hdm
      rw [bF_B hn d hdm, bF_B hcl d hdm, hL.bal d hdm]
    have lb : (A.balT c).length = n := by simp [A.balT, hcl]
    obtain ⟨k1, o1⟩ := ord_f hcl h12 hL.good.1
    rw [rnds_all hL.good hcdiag hz n (List.replicate n false) (by simp) (by
      have := isum_le (fun _ => 0) (fun i => if rdB (List.replicate n false) i = true then 1 else 0) n (fun i _ => by (try simp only); split <;> omega)
      rw [isum_zero] at this
      unfold cnt
      omega)] at o1
    obtain ⟨k2, o2⟩ := ord_f hn h12 hg.1
    obtain ⟨k3, s1⟩ := same_f c c (by omega) (fun i hi => by have := hL.good.1.2 i (by omega) (by omega); omega)
    obtain ⟨k4, s2⟩ := same_f c t (by omega) (fun i hi => by have := hL.good.1.2 i (by omega) (by omega); omega)
    rw [decide_eq_true rfl] at s1
    have hend : ∃ k, kinkeeplaw35_QuotaAcyclic.l0 k t c (n : Int) = some true := by
      generalize hK : k2 + k3 + k4 = K
      have m2 := more (f := fun k => kinkeeplaw35_ordered.f k t) (fun k => kinkeeplaw35_ordered.mono _ k) (show k2 ≤ K by omega) o2
      have m3 := more (f := fun k => kinkeepref35_Same.f k c c) (fun k => kinkeepref35_Same.mono _ _ k) (show k3 ≤ K by omega) s1
      have m4 := more (f := fun k => kinkeepref35_Same.f k c t) (fun k => kinkeepref35_Same.mono _ _ k) (show k4 ≤ K by omega) s2
      refine ⟨K + 1, ?_⟩
      rw [kinkeeplaw35_QuotaAcyclic.l0, if_neg (by omega), quota_Cancel.f, e2, Option.bind_some, if_pos rfl, m3, Option.bind_some, if_pos rfl, m2, Option.bind_some]
      cases ho : allT n (rnds t n n (List.replicate n false)) with
      | false => rw [if_neg (by simp)]
      | true =>
        have : c = t := by rw [hcd]; exact from_none (n - 1) 2 t (fun m m1 _ => ordered_none hg ho m (by omega))
        rw [if_pos rfl, m4, decide_eq_true this]
        rfl
    obtain ⟨k5, hk5⟩ := acy_l0 hn h12 hg hL hend n 0 (by omega) (by omega)
    generalize hK : k1 + k5 + 100 = K
    have m1 := more (f := fun k => kinkeeplaw35_ordered.f k c) (fun k => kinkeeplaw35_ordered.mono _ k) (show k1 ≤ K + 1 by omega) o1
    have m5 := more (f := fun k => kinkeeplaw35_QuotaAcyclic.l0 k t c ((0 : Nat) : Int)) (fun k => (kinkeeplaw35_QuotaAcyclic.mono_l k).2.1 _ _ _) (show k5 ≤ K by omega) hk5
    have si := sameInts (A.balT c) (A.balT c) (K + 1) (by omega) (by omega)
    rw [decide_eq_true rfl] at si
    refine ⟨K + 1, ?_⟩
    simp only [kinkeeplaw35_QuotaAcyclic.f, kinkeeplaw35_awake.f, Option.bind_some, if_true, quota_Cancel.f, e, quota_Balance.f, A.balOut, hv, hvc, hbal, si, m1]
    rw [kinkeeplaw35_QuotaAcyclic.j0, if_neg (by simp [hcl, hn])]
    exact m5
end Go.Proofs.Ytdljbmgknhbceaa.Pure
