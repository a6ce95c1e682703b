import Derived.Test.YtdljbmgknhbceaaM1
import Derived.Test.YtdljbmgknhbceaaQr
namespace Go.Proofs.Ytdljbmgknhbceaa.P
open Go.RowKit Go.Proofs.YtdljbmgknhbceaaW.PrintWords Go.Proofs.Ytdljbmgknhbceaa.Q
set_option linter.unusedVariables false
set_option linter.unusedSimpArgs false
set_option linter.unusedSectionVars false

/-! ### what the reference computes -/
theorem w64 {x : Int} (h : -9223372036854775808 ≤ x ∧ x ≤ 9223372036854775807) : wrap64 x = x := IntWalk.wrap64_in x h
theorem rd_eq (l : List Int) (i : Nat) (h : i < l.length) : rd l i = l[i] := by simp [rd, List.getD_eq_getElem?_getD, List.getElem?_eq_getElem h]
theorem rd1_eq (t : List (List Int)) (i : Nat) (h : i < t.length) : rd_L1 t i = t[i] := by simp [rd_L1, List.getD_eq_getElem?_getD, List.getElem?_eq_getElem h]

/-- SameInts -/
theorem sameInts_go (a b : List Int) (hl : a.length = b.length) (hm : a.length ≤ 1000000) : ∀ (m i k : Nat), a.length - i ≤ m → i ≤ a.length → m < k → kinkeepref35_SameInts.l0 k a b (i : Int) = some (decide (a.drop i = b.drop i)) := by
  intro m
  induction m with
  | zero =>
    intro i k h1 h2 h3
    obtain ⟨k, rfl⟩ := Nat.exists_eq_succ_of_ne_zero (show k ≠ 0 by omega)
    rw [kinkeepref35_SameInts.l0]
    have h : ¬ ((i : Int) < (a.length : Int)) := by omega
    rw [if_neg h, List.drop_of_length_le (by omega), List.drop_of_length_le (by omega)]
    simp
  | succ m ih =>
    intro i k h1 h2 h3
    obtain ⟨k, rfl⟩ := Nat.exists_eq_succ_of_ne_zero (show k ≠ 0 by omega)
    rw [kinkeepref35_SameInts.l0]
    by_cases h : i < a.length
    · have e1 : a.drop i = a[i] :: a.drop (i + 1) := List.drop_eq_getElem_cons h
      have e2 : b.drop i = b[i] :: b.drop (i + 1) := List.drop_eq_getElem_cons (by omega)
      have hw : wrap64 ((i : Int) + 1) = ((i + 1 : Nat) : Int) := by rw [w64 (by omega)]; rfl
      have r1 := rd_eq a i h
      have r2 := rd_eq b i (by omega)
      have ih' := ih (i + 1) k (by omega) (by omega) (by omega)
      have c1 : (i : Int) < (a.length : Int) := by omega
      have c2 : (0 : Int) ≤ (i : Int) := by omega
      have c3 : (i : Int) < (b.length : Int) := by omega
      have e3 : decide (a.drop i = b.drop i) = decide (a[i] = b[i] ∧ a.drop (i + 1) = b.drop (i + 1)) := by
        apply decide_eq_decide.2
        rw [e1, e2, List.cons.injEq]
      simp only [c1, c2, c3, if_true, r1, r2, hw, ih', e3]
      by_cases he : a[i] = b[i]
      · simp [he]
      · simp [he]
    · have h' : ¬ ((i : Int) < (a.length : Int)) := by omega
      rw [if_neg h', List.drop_of_length_le (by omega), List.drop_of_length_le (by omega)]
      simp
theorem sameInts (a b : List Int) (k : Nat) (hm : a.length ≤ 1000000) (hk : a.length < k) : kinkeepref35_SameInts.f k a b = some (decide (a = b)) := by
  unfold kinkeepref35_SameInts.f
  by_cases h : a.length = b.length
  · rw [if_pos (by omega)]
    have := sameInts_go a b h hm a.length 0 k (by omega) (by omega) hk
    simpa using this
  · rw [if_neg (by omega)]
    have : a ≠ b := fun e => h (by rw [e])
    simp [this]

/-- More rounds tell the same. -/
theorem more {α : Type} {f : Nat → Option α} (hm : ∀ k, LeO (f k) (f (k + 1))) {k k' : Nat} (h : k ≤ k') {r : α} (he : f k = some r) : f k' = some r := by
  induction h with
  | refl => exact he
  | step h ih => exact hm _ r ih

/-- Valid -/
theorem within_f (x : Int) : kinkeepref35_within.f x = some (A.okN x) := by
  unfold kinkeepref35_within.f A.okN
  by_cases h : x ≥ 0
  · rw [if_pos h]; simp [h]
  · rw [if_neg h]; simp [h]
def rowTail (row : List Int) (i j : Nat) : Bool := !(A.badAny (row.drop j)) && (decide (i < j) || decide (rd row i = 0))
theorem valid_l1 (t : List (List Int)) (ht : t.length ≤ 9223372036854775807) (i : Nat) (hi : i < t.length) (row : List Int) (hrow : row = rd_L1 t i) (hl : row.length = t.length) (b : Bool) (hb : ∃ k, kinkeepref35_Valid.l0 k t ((i + 1 : Nat) : Int) = some b) :
    ∀ (m j : Nat), t.length - j ≤ m → j ≤ t.length → ∃ k, kinkeepref35_Valid.l1 k t (i : Int) (j : Int) = some (rowTail row i j && b) := by
  intro m
  have hwi : wrap64 ((i : Int) + 1) = ((i + 1 : Nat) : Int) := by rw [w64 (by omega)]; rfl
  have ends : ∀ j, t.length ≤ j → ∃ k, kinkeepref35_Valid.l1 k t (i : Int) (j : Int) = some (rowTail row i j && b) := by
    intro j hj
    obtain ⟨k, hk⟩ := hb
    refine ⟨k + 1, ?_⟩
    have c1 : ¬ ((j : Int) < (t.length : Int)) := by omega
    have e : rowTail row i j = true := by simp [rowTail, List.drop_of_length_le (show row.length ≤ j by omega), A.badAny]; omega
    rw [kinkeepref35_Valid.l1, if_neg c1, hwi, hk, e, Bool.true_and]
  induction m with
  | zero => intro j h1 h2; exact ends j (by omega)
  | succ m ih =>
    intro j h1 h2
    by_cases h : j < t.length
    · obtain ⟨k, hk⟩ := ih (j + 1) (by omega) (by omega)
      refine ⟨k + 1, ?_⟩
      have hwj : wrap64 ((j : Int) + 1) = ((j + 1 : Nat) : Int) := by rw [w64 (by omega)]; rfl
      have c1 : (j : Int) < (t.length : Int) := by omega
      have c2 : (0 : Int) ≤ (i : Int) := by omega
      have c3 : (i : Int) < (t.length : Int) := by omega
      have c4 : (0 : Int) ≤ (j : Int) := by omega
      have c5 : (j : Int) < ((rd_L1 t i).length : Int) := by rw [← hrow, hl]; omega
      rw [kinkeepref35_Valid.l1, if_pos c1, if_pos c2, if_pos c3, if_pos c4, if_pos c5, within_f, ← hrow, hwj, hk]
      have hjr : j < row.length := by omega
      have e0 : row.drop j = row[j] :: row.drop (j + 1) := List.drop_eq_getElem_cons hjr
      have er : rd row j = row[j] := rd_eq row j hjr
      have et : rowTail row i j = (A.okN row[j] && (!(A.badAny (row.drop (j + 1))) && (decide (i < j) || decide (rd row i = 0)))) := by
        unfold rowTail
        rw [e0]
        simp only [A.badAny, List.any_cons, Bool.not_or, Bool.not_not, Bool.and_assoc]
      rw [er]
      simp only [Option.bind_some]
      cases ho : A.okN row[j] with
      | false => rw [et, ho]; rfl
      | true =>
        rw [if_pos rfl, et, ho, Bool.true_and]
        by_cases hij : i = j
        · subst hij
          rw [if_pos rfl]
          by_cases hz : row[i] = 0
          · rw [if_pos hz]; simp [rowTail, er, hz]
          · rw [if_neg hz]; simp [er, hz]
        · rw [if_neg (by omega)]
          have : decide (i < j + 1) = decide (i < j) := by apply decide_eq_decide.2; omega
          rw [rowTail, this]
    · exact ends j (by omega)
theorem valid_l0 (t : List (List Int)) (ht : t.length ≤ 9223372036854775807) : ∀ (m i : Nat), t.length - i ≤ m → i ≤ t.length → ∃ k, kinkeepref35_Valid.l0 k t (i : Int) = some (A.rowsOk t.length (t.drop i) i && decide (t.length ≤ 12)) := by
  intro m
  have ends : ∀ i, t.length ≤ i → ∃ k, kinkeepref35_Valid.l0 k t (i : Int) = some (A.rowsOk t.length (t.drop i) i && decide (t.length ≤ 12)) := by
    intro i hi
    refine ⟨1, ?_⟩
    rw [kinkeepref35_Valid.l0, if_neg (by omega), List.drop_of_length_le hi]
    simp [A.rowsOk]
    omega
  induction m with
  | zero => intro i h1 h2; exact ends i (by omega)
  | succ m ih =>
    intro i h1 h2
    by_cases h : i < t.length
    · have hn := ih (i + 1) (by omega) (by omega)
      rw [A.rowsOk_drop _ _ _ h]
      by_cases hl : (rd_L1 t i).length = t.length
      · obtain ⟨k, hk⟩ := valid_l1 t ht i h _ rfl hl _ hn t.length 0 (by omega) (by omega)
        refine ⟨k + 1, ?_⟩
        rw [kinkeepref35_Valid.l0, if_pos (by omega), if_pos (by omega), if_pos (by omega)]
        refine Eq.trans hk ?_
        congr 1
        simp only [rowTail, A.rowOk, List.drop_zero, hl, decide_true, Bool.true_and, Nat.not_lt_zero, decide_false, Bool.false_or]
        cases A.badAny (rd_L1 t (i : Int)) <;> simp [Bool.and_assoc]
      · refine ⟨1, ?_⟩
        rw [kinkeepref35_Valid.l0, if_pos (by omega), if_pos (by omega), if_neg (by omega)]
        simp [A.rowOk, hl]
    · exact ends i (by omega)
theorem valid_f (t : List (List Int)) (ht : t.length ≤ 9223372036854775807) : ∃ k, kinkeepref35_Valid.f k t = some (A.validT t) := valid_l0 t ht t.length 0 (by omega) (by omega)

/-- Held -/
theorem held_l1 (t : List (List Int)) (ht : t.length ≤ 1000) (i : Nat) (hi : i < t.length) (hl : (rd_L1 t i).length = t.length) (res : List Int) :
    ∀ (m j : Nat) (acc : List Int), t.length - j ≤ m → j ≤ t.length → acc.length = t.length → (∃ k, kinkeepref35_Held.l0 k t (acc.set i (A.wsum ((rd_L1 t i).drop j) (rd acc i))) ((i + 1 : Nat) : Int) = some res) →
      ∃ k, kinkeepref35_Held.l1 k t acc (i : Int) (j : Int) = some res := by
  intro m
  have hwi : wrap64 ((i : Int) + 1) = ((i + 1 : Nat) : Int) := by rw [w64 (by omega)]; rfl
  have ends : ∀ (j : Nat) (acc : List Int), t.length ≤ j → acc.length = t.length → (∃ k, kinkeepref35_Held.l0 k t (acc.set i (A.wsum ((rd_L1 t i).drop j) (rd acc i))) ((i + 1 : Nat) : Int) = some res) →
      ∃ k, kinkeepref35_Held.l1 k t acc (i : Int) (j : Int) = some res := by
    intro j acc hj ha ⟨k, hk⟩
    refine ⟨k + 1, ?_⟩
    rw [kinkeepref35_Held.l1, if_neg (by omega), hwi]
    rw [List.drop_of_length_le (by omega), A.wsum, rd_eq acc i (by omega), List.set_getElem_self] at hk
    exact hk
  induction m with
  | zero => intro j acc h1 h2 h3 h4; exact ends j acc (by omega) h3 h4
  | succ m ih =>
    intro j acc h1 h2 h3 h4
    by_cases h : j < t.length
    · have hjr : j < (rd_L1 t i).length := by omega
      have e0 : (rd_L1 t i).drop j = (rd_L1 t i)[j] :: (rd_L1 t i).drop (j + 1) := List.drop_eq_getElem_cons hjr
      obtain ⟨k, hk⟩ := ih (j + 1) (acc.set i (wrap64 (rd acc i + (rd_L1 t i)[j]))) (by omega) (by omega) (by simpa using h3) (by
        obtain ⟨k, hk⟩ := h4
        refine ⟨k, ?_⟩
        rw [e0, A.wsum] at hk
        rw [List.set_set, rd_eq (acc.set i _) i (by simpa using (by omega : i < acc.length)), List.getElem_set_self]
        exact hk)
      refine ⟨k + 1, ?_⟩
      have hwj : wrap64 ((j : Int) + 1) = ((j + 1 : Nat) : Int) := by rw [w64 (by omega)]; rfl
      rw [kinkeepref35_Held.l1, if_pos (by omega), if_pos (by omega), if_pos (by omega), if_pos (by omega), if_pos (by omega), if_pos (by omega), hwj, rd_eq (rd_L1 t i) j hjr, Int.toNat_natCast]
      exact hk
    · exact ends j acc (by omega) h3 h4
theorem take_set_succ (l : List Int) (i : Nat) (v : Int) (h : i < l.length) : (l.set i v).take (i + 1) = l.take i ++ [v] := by
  rw [List.set_eq_take_append_cons_drop, if_pos h, List.take_append, List.take_take, List.length_take]
  rw [Nat.min_eq_right (by omega : i ≤ i + 1), Nat.min_eq_left (by omega), show i + 1 - i = 1 from by omega]
  rfl
theorem held_l0 (t : List (List Int)) (ht : t.length ≤ 1000) (hsq : ∀ i : Nat, i < t.length → (rd_L1 t i).length = t.length) :
    ∀ (m i : Nat) (acc : List Int), t.length - i ≤ m → i ≤ t.length → acc.length = t.length → (∀ j : Nat, i ≤ j → j < t.length → rd acc j = 0) → ∃ k, kinkeepref35_Held.l0 k t acc (i : Int) = some (acc.take i ++ (t.drop i).map fun r => A.wsum r 0) := by
  intro m
  have ends : ∀ (i : Nat) (acc : List Int), t.length ≤ i → acc.length = t.length → ∃ k, kinkeepref35_Held.l0 k t acc (i : Int) = some (acc.take i ++ (t.drop i).map fun r => A.wsum r 0) := by
    intro i acc hi ha
    refine ⟨1, ?_⟩
    rw [kinkeepref35_Held.l0, if_neg (by omega), List.drop_of_length_le hi, List.take_of_length_le (by omega)]
    simp
  induction m with
  | zero => intro i acc h1 h2 h3 h4; exact ends i acc (by omega) h3
  | succ m ih =>
    intro i acc h1 h2 h3 h4
    by_cases h : i < t.length
    · have hn := ih (i + 1) (acc.set i (A.wsum (rd_L1 t i) 0)) (by omega) (by omega) (by simpa using h3) (fun j hj hj2 => by
        have := h4 j (by omega) hj2
        rw [rd_eq _ j (by omega)] at this
        rw [rd_eq _ j (by simp; omega), List.getElem_set_ne (by omega)]
        exact this)
      obtain ⟨k, hk⟩ := held_l1 t ht i h (hsq i h) _ t.length 0 acc (by omega) (by omega) h3 (by rw [h4 i (Nat.le_refl i) h, List.drop_zero]; exact hn)
      refine ⟨k + 1, ?_⟩
      rw [kinkeepref35_Held.l0, if_pos (by omega)]
      refine Eq.trans hk ?_
      rw [take_set_succ _ _ _ (by omega), List.drop_eq_getElem_cons h, List.map_cons, rd1_eq t i h, List.append_assoc]
      rfl
    · exact ends i acc (by omega) h3
theorem sq_of {t : List (List Int)} (hv : A.validT t = true) (i : Nat) (h : i < t.length) : (rd_L1 t i).length = t.length := by
  rw [rd1_eq t i h]
  exact ((A.valid_sq hv).2 _ (List.getElem_mem h)).1
theorem held_f (t : List (List Int)) (hv : A.validT t = true) : ∃ k, kinkeepref35_Held.f k t = some (A.heldT t) := by
  have h12 := (A.valid_sq hv).1
  obtain ⟨k, hk⟩ := held_l0 t (by omega) (sq_of hv) t.length 0 (List.replicate t.length 0) (by omega) (by omega) (by simp) (fun j _ hj => by rw [rd_eq _ j (by simpa using hj)]; simp)
  refine ⟨k, ?_⟩
  unfold kinkeepref35_Held.f
  rw [if_pos (by omega), if_pos (by rw [Int.toNat_natCast]; omega), Int.toNat_natCast]
  simpa [A.heldT] using hk

/-! ### sums that do not wrap -/
def isum (f : Nat → Int) : Nat → Int
  | 0 => 0
  | n + 1 => isum f n + f n
theorem isum_bound (f : Nat → Int) (B : Int) : ∀ n : Nat, (∀ i, i < n → 0 ≤ f i ∧ f i ≤ B) → 0 ≤ isum f n ∧ isum f n ≤ n * B := by
  intro n
  induction n with
  | zero => intro _; simp [isum]
  | succ n ih =>
    intro h
    have h1 := ih (fun i hi => h i (by omega))
    have h2 := h n (by omega)
    rw [isum, show ((n + 1 : Nat) : Int) * B = n * B + B from by push_cast; rw [Int.add_mul]; omega]
    omega
theorem isum_congr {f g : Nat → Int} : ∀ {n : Nat}, (∀ i, i < n → f i = g i) → isum f n = isum g n := by
  intro n
  induction n with
  | zero => intro _; rfl
  | succ n ih => intro h; rw [isum, isum, ih (fun i hi => h i (by omega)), h n (by omega)]
theorem wsum_isum (l : List Int) (hl : l.length ≤ 1000) (hb : ∀ i : Nat, i < l.length → 0 ≤ rd l i ∧ rd l i ≤ 1099511627776) : ∀ n : Nat, n ≤ l.length → A.wsum (l.take n) 0 = isum (fun i => rd l i) n := by
  intro n
  induction n with
  | zero => intro _; simp [A.wsum, isum]
  | succ n ih =>
    intro h
    rw [List.take_add_one, List.getElem?_eq_getElem (by omega), Option.toList_some, A.wsum_snoc, ih (by omega), isum, ← rd_eq l n (by omega)]
    have h1 := isum_bound (fun i => rd l (i : Nat)) 1099511627776 n (fun i hi => hb i (by omega))
    have h2 := hb n (by omega)
    have h3 : (n : Int) * 1099511627776 ≤ 1000 * 1099511627776 := by omega
    exact w64 (by omega)
theorem wsum_full (l : List Int) (hl : l.length ≤ 1000) (hb : ∀ i : Nat, i < l.length → 0 ≤ rd l i ∧ rd l i ≤ 1099511627776) : A.wsum l 0 = isum (fun i => rd l i) l.length := by
  have := wsum_isum l hl hb l.length (Nat.le_refl _)
  rwa [List.take_length] at this

/-! ### Balance -/
def bF (t : List (List Int)) (h o d : Nat) : Int :=
  isum (fun i => A.get t i d) h + (if d < o then A.get t h d else 0) - (if d < h then isum (fun j => A.get t d j) t.length else if d = h then isum (fun j => A.get t h j) o else 0)
section
variable {t : List (List Int)} (hG : A.Good t.length t) (h12 : t.length ≤ 12)
include hG h12
theorem g_bound {i j : Nat} (hi : i < t.length) (hj : j < t.length) : 0 ≤ A.get t i j ∧ A.get t i j ≤ 1099511627776 := hG.2 i j (by omega) (by omega) (by omega) (by omega)
theorem bF_bound {h o d : Nat} (hh : h < t.length ∨ h = t.length ∧ o = 0) (ho : o ≤ t.length) (hd : d < t.length) : -100000000000000 ≤ bF t h o d ∧ bF t h o d ≤ 100000000000000 := by
  have b1 := isum_bound (fun i => A.get t i d) 1099511627776 h (fun i hi => g_bound hG h12 (by omega) hd)
  have b2 := isum_bound (fun j => A.get t d j) 1099511627776 t.length (fun i hi => g_bound hG h12 hd hi)
  have c1 : (h : Int) * 1099511627776 ≤ 12 * 1099511627776 := by omega
  have c2 : (t.length : Int) * 1099511627776 ≤ 12 * 1099511627776 := by omega
  unfold bF
  rcases hh with hh | ⟨rfl, rfl⟩
  · have b3 := isum_bound (fun j => A.get t h j) 1099511627776 o (fun i hi => g_bound hG h12 hh (by omega))
    have b4 := g_bound hG h12 hh hd
    have c3 : (o : Int) * 1099511627776 ≤ 12 * 1099511627776 := by omega
    repeat' split
    all_goals omega
  · rw [if_neg (by omega), if_pos hd]
    omega
theorem bF_next {i d : Nat} (hi : i < t.length) (hd : d < t.length) : bF t i t.length d = bF t (i + 1) 0 d := by
  have e : isum (fun i => A.get t i d) (i + 1) = isum (fun i => A.get t i d) i + A.get t i d := rfl
  unfold bF
  rw [if_pos hd, if_neg (Nat.not_lt_zero d), e]
  by_cases h1 : d < i
  · rw [if_pos h1, if_pos (by omega)]; omega
  · by_cases h2 : d = i
    · subst h2
      rw [if_neg h1, if_pos rfl, if_pos (by omega)]; omega
    · rw [if_neg h1, if_neg h2, if_neg (by omega)]
      by_cases h3 : d = i + 1
      · have e0 : isum (fun j => A.get t (i + 1 : Nat) j) 0 = 0 := rfl
        rw [if_pos h3, e0]; omega
      · rw [if_neg h3]; omega
theorem bF_step {i j d : Nat} (hi : i < t.length) (hj : j < t.length) (hd : d < t.length) : bF t i (j + 1) d = bF t i j d + (if d = j then A.get t i j else 0) - (if d = i then A.get t i j else 0) := by
  unfold bF
  have e1 : (if d < j + 1 then A.get t i d else 0) = (if d < j then A.get t i d else 0) + (if d = j then A.get t i j else 0) := by
    by_cases h1 : d = j
    · subst h1; rw [if_pos (by omega), if_neg (by omega), if_pos rfl]; omega
    · by_cases h2 : d < j
      · rw [if_pos (by omega), if_pos h2, if_neg h1]; omega
      · rw [if_neg (by omega), if_neg h2, if_neg h1]; omega
  have e2 : (if d < i then isum (fun j => A.get t d j) t.length else if d = i then isum (fun j => A.get t i j) (j + 1) else 0) = (if d < i then isum (fun j => A.get t d j) t.length else if d = i then isum (fun j => A.get t i j) j else 0) + (if d = i then A.get t i j else 0) := by
    by_cases h1 : d < i
    · rw [if_pos h1, if_pos h1, if_neg (by omega)]; omega
    · rw [if_neg h1, if_neg h1]
      by_cases h2 : d = i
      · rw [if_pos h2, if_pos h2, if_pos h2, isum]
      · rw [if_neg h2, if_neg h2, if_neg h2]; omega
  rw [e1, e2]
  omega
theorem rd_set {l : List Int} {i : Nat} (h : i < l.length) (v : Int) (d : Nat) (hd : d < l.length) : rd (l.set i v) d = if d = i then v else rd l d := by
  rw [rd_eq _ d (by simpa using hd), rd_eq l d hd, List.getElem_set]
  by_cases h : i = d
  · rw [if_pos h, if_pos h.symm]
  · rw [if_neg h, if_neg (fun e => h e.symm)]
set_option maxHeartbeats 2000000 in
theorem balance_l1 (i : Nat) (hi : i < t.length) (res : List Int) (hnext : ∀ acc : List Int, acc.length = t.length → (∀ d : Nat, d < t.length → rd acc d = bF t (i + 1) 0 d) → ∃ k, kinkeepref35_Balance.l0 k t acc ((i + 1 : Nat) : Int) = some res) :
    ∀ (m j : Nat) (acc : List Int), t.length - j ≤ m → j ≤ t.length → acc.length = t.length → (∀ d : Nat, d < t.length → rd acc d = bF t i j d) → ∃ k, kinkeepref35_Balance.l1 k t acc (i : Int) (j : Int) = some res := by
  intro m
  have hwi : wrap64 ((i : Int) + 1) = ((i + 1 : Nat) : Int) := by rw [w64 (by omega)]; rfl
  have ends : ∀ (j : Nat) (acc : List Int), j = t.length → acc.length = t.length → (∀ d : Nat, d < t.length → rd acc d = bF t i j d) → ∃ k, kinkeepref35_Balance.l1 k t acc (i : Int) (j : Int) = some res := by
    intro j acc hj ha hF
    obtain ⟨k, hk⟩ := hnext acc ha (fun d hd => by rw [hF d hd, hj]; exact bF_next hG h12 hi hd)
    refine ⟨k + 1, ?_⟩
    rw [kinkeepref35_Balance.l1, if_neg (by omega), hwi]
    exact hk
  induction m with
  | zero => intro j acc h1 h2 h3 h4; exact ends j acc (by omega) h3 h4
  | succ m ih =>
    intro j acc h1 h2 h3 h4
    by_cases h : j < t.length
    · have hl : (rd_L1 t i).length = t.length := hG.1.2 i (by omega) (by omega)
      have hwj : wrap64 ((j : Int) + 1) = ((j + 1 : Nat) : Int) := by rw [w64 (by omega)]; rfl
      have c1 : (j : Int) < (t.length : Int) := by omega
      have c2 : (0 : Int) ≤ (j : Int) := by omega
      have c3 : (j : Int) < (acc.length : Int) := by omega
      have c4 : (0 : Int) ≤ (i : Int) := by omega
      have c5 : (i : Int) < (t.length : Int) := by omega
      have c6 : (j : Int) < ((rd_L1 t i).length : Int) := by omega
      have c7 : (i : Int) < (acc.length : Int) := by omega
      have hja : j < acc.length := by omega
      have hia : i < acc.length := by omega
      have gb := g_bound hG h12 hi h
      have eg : rd (rd_L1 t i) j = A.get t i j := rfl
      have v1 : wrap64 (rd acc j + A.get t i j) = bF t i j j + A.get t i j := by
        rw [h4 j h]
        have := bF_bound hG h12 (Or.inl hi) (by omega : j ≤ t.length) h
        exact w64 (by omega)
      have v2 : ∀ d : Nat, d < t.length → rd (acc.set j (bF t i j j + A.get t i j)) d = bF t i j d + (if d = j then A.get t i j else 0) := fun d hd => by
        rw [rd_set hG h12 (by omega) _ d (by omega), h4 d hd]
        by_cases e : d = j
        · subst e; rw [if_pos rfl, if_pos rfl]
        · rw [if_neg e, if_neg e]; omega
      have v3 : wrap64 (rd (acc.set j (bF t i j j + A.get t i j)) i - A.get t i j) = bF t i (j + 1) i := by
        rw [v2 i hi, bF_step hG h12 hi h hi, if_pos (rfl : i = i)]
        have := bF_bound hG h12 (Or.inl hi) (by omega : j ≤ t.length) hi
        refine w64 ?_
        split <;> omega
      obtain ⟨k, hk⟩ := ih (j + 1) ((acc.set j (bF t i j j + A.get t i j)).set i (bF t i (j + 1) i)) (by omega) (by omega) (by simpa using h3) (fun d hd => by
        rw [rd_set hG h12 (by rw [List.length_set]; exact hia) _ d (by rw [List.length_set, h3]; exact hd)]
        by_cases e : d = i
        · rw [if_pos e, e]
        · rw [if_neg e, v2 d hd, bF_step hG h12 hi h hd, if_neg e]; omega)
      refine ⟨k + 1, ?_⟩
      rw [kinkeepref35_Balance.l1, if_pos c1, if_pos c2, if_pos c3, if_pos c4, if_pos c5, if_pos c6, eg, v1, Option.bind_some, if_pos c7, Int.toNat_natCast, Int.toNat_natCast, v3, hwj]
      exact hk
    · exact ends j acc (by omega) h3 h4
theorem balance_l0 : ∀ (m i : Nat) (acc : List Int), t.length - i ≤ m → i ≤ t.length → acc.length = t.length → (∀ d : Nat, d < t.length → rd acc d = bF t i 0 d) →
    ∃ k, kinkeepref35_Balance.l0 k t acc (i : Int) = some ((List.range t.length).map fun d => bF t t.length 0 d) := by
  intro m
  have ends : ∀ (i : Nat) (acc : List Int), i = t.length → acc.length = t.length → (∀ d : Nat, d < t.length → rd acc d = bF t i 0 d) → ∃ k, kinkeepref35_Balance.l0 k t acc (i : Int) = some ((List.range t.length).map fun d => bF t t.length 0 d) := by
    intro i acc hi ha hF
    refine ⟨1, ?_⟩
    rw [kinkeepref35_Balance.l0, if_neg (by omega)]
    congr 1
    refine List.ext_getElem (by simpa using ha) (fun d h1 h2 => ?_)
    rw [← rd_eq acc d h1, hF d (by omega), hi]
    simp
  induction m with
  | zero => intro i acc h1 h2 h3 h4; exact ends i acc (by omega) h3 h4
  | succ m ih =>
    intro i acc h1 h2 h3 h4
    by_cases h : i < t.length
    · obtain ⟨k, hk⟩ := balance_l1 hG h12 i h _ (fun acc' ha hF => ih (i + 1) acc' (by omega) (by omega) ha hF) t.length 0 acc (by omega) (by omega) h3 h4
      refine ⟨k + 1, ?_⟩
      rw [kinkeepref35_Balance.l0, if_pos (by omega)]
      exact hk
    · exact ends i acc (by omega) h3 h4
end
theorem balT_eq {t : List (List Int)} (hv : A.validT t = true) : A.balT t = (List.range t.length).map fun d => bF t t.length 0 d := by
  have hG := A.valid_good hv
  have h12 := (A.valid_sq hv).1
  unfold A.balT
  refine List.map_congr_left (fun d hd => ?_)
  have hd := List.mem_range.1 hd
  have hr : (rd_L1 t d).length = t.length := sq_of hv d hd
  have hc : (A.column t (d : Int)).length = t.length := by simp [A.column]
  have rc : ∀ i : Nat, i < t.length → rd (A.column t (d : Int)) i = A.get t i d := fun i hi => by
    rw [rd_eq _ i (by omega)]
    simp only [A.column, List.getElem_map]
    rw [← rd1_eq t i hi]; rfl
  rw [wsum_full _ (by omega) (fun i hi => by rw [rc i (by omega)]; exact g_bound hG h12 (by omega) hd), wsum_full _ (by omega) (fun i hi => g_bound hG h12 hd (by omega)), hc, hr]
  rw [isum_congr (fun i hi => rc i hi)]
  have := bF_bound hG h12 (Or.inr ⟨rfl, rfl⟩ : t.length < t.length ∨ t.length = t.length ∧ (0 : Nat) = 0) (Nat.zero_le _) hd
  have e : bF t t.length 0 d = isum (fun i => A.get t i d) t.length - isum (fun j => A.get t d j) t.length := by
    unfold bF
    rw [if_neg (by omega), if_pos hd]; omega
  have e' : isum (fun i => rd (rd_L1 t (d : Int)) i) t.length = isum (fun j => A.get t d j) t.length := rfl
  rw [e'] 
  rw [e] at this ⊢
  exact w64 (by omega)
theorem balance_f (t : List (List Int)) (hv : A.validT t = true) : ∃ k, kinkeepref35_Balance.f k t = some (A.balT t) := by
  have hG := A.valid_good hv
  have h12 := (A.valid_sq hv).1
  obtain ⟨k, hk⟩ := balance_l0 hG h12 t.length 0 (List.replicate t.length 0) (by omega) (by omega) (by simp) (fun d hd => by
    rw [rd_eq _ d (by simpa using hd)]
    unfold bF
    by_cases h : d = 0
    · subst h; simp [isum]
    · simp [isum, h])
  refine ⟨k, ?_⟩
  unfold kinkeepref35_Balance.f
  rw [if_pos (by omega), if_pos (by rw [Int.toNat_natCast]; omega), Int.toNat_natCast, balT_eq hv]
  exact hk
end Go.Proofs.Ytdljbmgknhbceaa.P

namespace Go.Proofs.Ytdljbmgknhbceaa.P
open Go.RowKit Go.Proofs.YtdljbmgknhbceaaW.PrintWords Go.Proofs.Ytdljbmgknhbceaa.Q
set_option linter.unusedVariables false
set_option linter.unusedSimpArgs false

/-- Quotas -/
theorem quotas_go (t : List (List Int)) (q : List Int) (hq : q.length ≤ 9223372036854775807) : ∀ (m i k : Nat), q.length - i ≤ m → i ≤ q.length → m < k → kinkeepref35_Quotas.l0 k t q (i : Int) = some (!(A.badAny (q.drop i)) && decide (q.length = t.length)) := by
  intro m
  have ends : ∀ (i k : Nat), q.length ≤ i → 0 < k → kinkeepref35_Quotas.l0 k t q (i : Int) = some (!(A.badAny (q.drop i)) && decide (q.length = t.length)) := by
    intro i k hi hk
    obtain ⟨k, rfl⟩ := Nat.exists_eq_succ_of_ne_zero (show k ≠ 0 by omega)
    rw [kinkeepref35_Quotas.l0, if_neg (by omega), List.drop_of_length_le hi]
    congr 1
    by_cases h : q.length = t.length
    · simp [A.badAny, h]
    · have : ¬ ((q.length : Int) = (t.length : Int)) := by omega
      simp [A.badAny, h, this]
  induction m with
  | zero => intro i k h1 h2 h3; exact ends i k (by omega) h3
  | succ m ih =>
    intro i k h1 h2 h3
    by_cases h : i < q.length
    · obtain ⟨k, rfl⟩ := Nat.exists_eq_succ_of_ne_zero (show k ≠ 0 by omega)
      have hw : wrap64 ((i : Int) + 1) = ((i + 1 : Nat) : Int) := by rw [w64 (by omega)]; rfl
      have e0 : q.drop i = q[i] :: q.drop (i + 1) := List.drop_eq_getElem_cons h
      rw [kinkeepref35_Quotas.l0, if_pos (by omega), if_pos (by omega), within_f, rd_eq q i h, Option.bind_some, hw, ih (i + 1) k (by omega) (by omega) (by omega), e0]
      cases ho : A.okN q[i] with
      | false => simp only [A.badAny, List.any_cons, ho]; rfl
      | true => simp only [A.badAny, List.any_cons, ho]; rfl
    · exact ends i k (by omega) (by omega)
theorem quotas_f (t : List (List Int)) (q : List Int) (hq : q.length ≤ 9223372036854775807) (k : Nat) (hk : q.length < k) : kinkeepref35_Quotas.f k t q = some (!(A.badAny q) && decide (q.length = t.length)) :=
  quotas_go t q hq q.length 0 k (by omega) (by omega) hk
end Go.Proofs.Ytdljbmgknhbceaa.P

namespace Go.Proofs.Ytdljbmgknhbceaa.P
open Go.RowKit Go.Proofs.YtdljbmgknhbceaaW.PrintWords Go.Proofs.Ytdljbmgknhbceaa.Q
set_option linter.unusedVariables false
set_option linter.unusedSimpArgs false

/-! ### low -/
def lowB (t : List (List Int)) (M : Int) : Bool := t.all fun row => decide (row.length ≤ 14) && row.all fun x => decide (x ≤ M)
theorem low_l1 (t : List (List Int)) (n M : Int) (ht : t.length ≤ 9223372036854775807) (i : Nat) (hi : i < t.length) (row : List Int) (hrow : row = rd_L1 t i) (hl : row.length ≤ 14) (b : Bool) (hb : ∃ k, kinkeeplaw35_low.l0 k t n M ((i + 1 : Nat) : Int) = some b) :
    ∀ (m j : Nat), row.length - j ≤ m → j ≤ row.length → ∃ k, kinkeeplaw35_low.l1 k t n M (i : Int) (j : Int) = some ((row.drop j).all (fun x => decide (x ≤ M)) && b) := by
  intro m
  have hwi : wrap64 ((i : Int) + 1) = ((i + 1 : Nat) : Int) := by rw [w64 (by omega)]; rfl
  have c0 : (0 : Int) ≤ (i : Int) := by omega
  have c1 : (i : Int) < (t.length : Int) := by omega
  have ends : ∀ j, row.length ≤ j → ∃ k, kinkeeplaw35_low.l1 k t n M (i : Int) (j : Int) = some ((row.drop j).all (fun x => decide (x ≤ M)) && b) := by
    intro j hj
    obtain ⟨k, hk⟩ := hb
    refine ⟨k + 1, ?_⟩
    rw [kinkeeplaw35_low.l1, if_pos c0, if_pos c1, ← hrow, if_neg (by omega), hwi, hk, List.drop_of_length_le hj]
    rfl
  induction m with
  | zero => intro j h1 h2; exact ends j (by omega)
  | succ m ih =>
    intro j h1 h2
    by_cases h : j < row.length
    · obtain ⟨k, hk⟩ := ih (j + 1) (by omega) (by omega)
      have hwj : wrap64 ((j : Int) + 1) = ((j + 1 : Nat) : Int) := by rw [w64 (by omega)]; rfl
      have e0 : row.drop j = row[j] :: row.drop (j + 1) := List.drop_eq_getElem_cons h
      refine ⟨k + 1, ?_⟩
      rw [kinkeeplaw35_low.l1, if_pos c0, if_pos c1, ← hrow, if_pos (by omega), if_pos (by omega), rd_eq row j h, hwj, hk, e0]
      by_cases hM : row[j] > M
      · rw [if_pos hM]
        have : ¬ row[j] ≤ M := by omega
        rw [List.all_cons, decide_eq_false this]; rfl
      · rw [if_neg hM]
        have : row[j] ≤ M := by omega
        rw [List.all_cons, decide_eq_true this]; rfl
    · exact ends j (by omega)
theorem low_l0 (t : List (List Int)) (n M : Int) (ht : t.length ≤ 9223372036854775807) : ∀ (m i : Nat), t.length - i ≤ m → i ≤ t.length → ∃ k, kinkeeplaw35_low.l0 k t n M (i : Int) = some (lowB (t.drop i) M && decide ((t.length : Int) ≤ n)) := by
  intro m
  have ends : ∀ i, t.length ≤ i → ∃ k, kinkeeplaw35_low.l0 k t n M (i : Int) = some (lowB (t.drop i) M && decide ((t.length : Int) ≤ n)) := by
    intro i hi
    refine ⟨1, ?_⟩
    rw [kinkeeplaw35_low.l0, if_neg (by omega), List.drop_of_length_le hi]
    rfl
  induction m with
  | zero => intro i h1 h2; exact ends i (by omega)
  | succ m ih =>
    intro i h1 h2
    by_cases h : i < t.length
    · have hn := ih (i + 1) (by omega) (by omega)
      have e0 : t.drop i = rd_L1 t i :: t.drop (i + 1) := by rw [rd1_eq t i h]; exact List.drop_eq_getElem_cons h
      by_cases hl : (rd_L1 t i).length ≤ 14
      · obtain ⟨k, hk⟩ := low_l1 t n M ht i h _ rfl hl _ hn _ 0 (Nat.le_refl _) (Nat.zero_le _)
        refine ⟨k + 1, ?_⟩
        rw [kinkeeplaw35_low.l0, if_pos (by omega), if_pos (by omega), if_neg (by omega)]
        refine Eq.trans hk ?_
        rw [e0]
        simp [lowB, hl, Bool.and_assoc]
      · refine ⟨1, ?_⟩
        rw [kinkeeplaw35_low.l0, if_pos (by omega), if_pos (by omega), if_pos (by omega), e0]
        simp [lowB, hl]
    · exact ends i (by omega)
theorem low_f (t : List (List Int)) (n M : Int) (ht : t.length ≤ 9223372036854775807) : ∃ k, kinkeeplaw35_low.f k t n M = some (lowB t M && decide ((t.length : Int) ≤ n)) := low_l0 t n M ht t.length 0 (by omega) (by omega)
theorem lowB_at {t : List (List Int)} {M : Int} (h : lowB t M = true) (i j : Nat) (hi : i < t.length) (hj : j < (rd_L1 t i).length) : A.get t i j ≤ M := by
  rw [lowB, List.all_eq_true] at h
  have h1 := h (rd_L1 t i) (by rw [rd1_eq t i hi]; exact List.getElem_mem hi)
  simp only [Bool.and_eq_true, decide_eq_true_eq, List.all_eq_true] at h1
  have := h1.2 ((rd_L1 t i)[j]) (List.getElem_mem hj)
  show rd (rd_L1 t i) j ≤ M
  rw [rd_eq _ j hj]
  exact this
end Go.Proofs.Ytdljbmgknhbceaa.P

namespace Go.Proofs.Ytdljbmgknhbceaa.P
open Go.RowKit Go.Proofs.YtdljbmgknhbceaaW.PrintWords Go.Proofs.Ytdljbmgknhbceaa.Q
set_option linter.unusedVariables false
set_option linter.unusedSimpArgs false

/-! ### validity, both ways -/
theorem rowsOk_of (t : List (List Int)) (n : Nat) (h : ∀ i : Nat, i < t.length → A.rowOk n i (rd_L1 t i) = true) : ∀ (m i : Nat), t.length - i ≤ m → i ≤ t.length → A.rowsOk n (t.drop i) i = true := by
  intro m
  induction m with
  | zero => intro i h1 h2; rw [List.drop_of_length_le (by omega)]; rfl
  | succ m ih =>
    intro i h1 h2
    by_cases hi : i < t.length
    · rw [A.rowsOk_drop _ _ _ hi, h i hi, ih (i + 1) (by omega) (by omega)]; rfl
    · rw [List.drop_of_length_le (by omega)]; rfl
theorem rowsOk_at (t : List (List Int)) (n : Nat) : ∀ (m i : Nat), i ≤ m → m < t.length → A.rowsOk n (t.drop i) i = true → A.rowOk n m (rd_L1 t m) = true := by
  intro m i hi hm h
  obtain ⟨d, hd⟩ : ∃ d, d = m - i := ⟨_, rfl⟩
  induction d generalizing i with
  | zero =>
    obtain rfl : i = m := by omega
    rw [A.rowsOk_drop _ _ _ hm, Bool.and_eq_true] at h
    exact h.1
  | succ d ih =>
    rw [A.rowsOk_drop _ _ _ (show i < t.length by omega), Bool.and_eq_true] at h
    exact ih (i + 1) (by omega) h.2 (by omega)
theorem valid_diag {t : List (List Int)} (h : A.validT t = true) (i : Nat) (hi : i < t.length) : A.get t i i = 0 := by
  rw [A.validT, Bool.and_eq_true] at h
  have := rowsOk_at t t.length i 0 (Nat.zero_le _) hi h.1
  simp only [A.rowOk, Bool.and_eq_true, decide_eq_true_eq] at this
  exact this.2.1
theorem bad_iff (l : List Int) : A.badAny l = false ↔ ∀ i : Nat, i < l.length → 0 ≤ rd l i ∧ rd l i ≤ 1099511627776 := by
  rw [A.badAny, List.any_eq_false]
  constructor
  · intro h i hi
    have := h _ (List.getElem_mem hi)
    rw [rd_eq l i hi]
    simpa [A.okN] using this
  · intro h x hx
    obtain ⟨i, hi, rfl⟩ := List.getElem_of_mem hx
    have := h i hi
    rw [rd_eq l i hi] at this
    simpa [A.okN] using this
theorem validT_of {t : List (List Int)} (h12 : t.length ≤ 12) (hl : ∀ i : Nat, i < t.length → (rd_L1 t i).length = t.length) (hd : ∀ i : Nat, i < t.length → A.get t i i = 0) (hb : ∀ i j : Nat, i < t.length → j < t.length → 0 ≤ A.get t i j ∧ A.get t i j ≤ 1099511627776) : A.validT t = true := by
  rw [A.validT, Bool.and_eq_true]
  refine ⟨?_, by simpa using h12⟩
  refine rowsOk_of t t.length (fun i hi => ?_) t.length 0 (by omega) (by omega)
  simp only [A.rowOk, Bool.and_eq_true, decide_eq_true_eq, Bool.not_eq_true']
  exact ⟨hl i hi, hd i hi, (bad_iff _).2 (fun j hj => hb i j hi (by rw [← hl i hi]; exact hj))⟩

/-! ### sums of sums -/
theorem isum_add (f g : Nat → Int) : ∀ n, isum (fun i => f i + g i) n = isum f n + isum g n := by
  intro n
  induction n with
  | zero => rfl
  | succ n ih => simp only [isum, ih]; omega
theorem isum_sub (f g : Nat → Int) : ∀ n, isum (fun i => f i - g i) n = isum f n - isum g n := by
  intro n
  induction n with
  | zero => rfl
  | succ n ih => simp only [isum, ih]; omega
theorem isum_zero : ∀ n, isum (fun _ => 0) n = 0 := by
  intro n
  induction n with
  | zero => rfl
  | succ n ih => simp only [isum, ih]; rfl
theorem isum_swap (f : Nat → Nat → Int) (n : Nat) : ∀ m, isum (fun i => isum (fun j => f i j) n) m = isum (fun j => isum (fun i => f i j) m) n := by
  intro m
  induction m with
  | zero => simp only [isum]; exact (isum_zero n).symm
  | succ m ih =>
    simp only [isum]
    rw [ih, ← isum_add]
theorem bF_all (t : List (List Int)) (d : Nat) (hd : d < t.length) : bF t t.length 0 d = isum (fun i => A.get t i d) t.length - isum (fun j => A.get t d j) t.length := by
  unfold bF
  rw [if_neg (by omega), if_pos hd]; omega
theorem bF_total (t : List (List Int)) : isum (fun d => bF t t.length 0 d) t.length = 0 := by
  rw [isum_congr (fun d hd => bF_all t d hd), isum_sub, isum_swap (fun d i => A.get t i d)]
  omega
end Go.Proofs.Ytdljbmgknhbceaa.P

namespace Go.Proofs.Ytdljbmgknhbceaa.P
open Go.RowKit Go.Proofs.YtdljbmgknhbceaaW.PrintWords Go.Proofs.Ytdljbmgknhbceaa.Q
set_option linter.unusedVariables false
set_option linter.unusedSimpArgs false

/-! ### Same and Clone -/
theorem same_go (a b : List (List Int)) (hl : a.length = b.length) (hm : a.length ≤ 1000000) (hr : ∀ i : Nat, i < a.length → (rd_L1 a i).length ≤ 1000000) : ∀ (m i : Nat), a.length - i ≤ m → i ≤ a.length → ∃ k, kinkeepref35_Same.l0 k a b (i : Int) = some (decide (a.drop i = b.drop i)) := by
  have ends : ∀ i, a.length ≤ i → ∃ k, kinkeepref35_Same.l0 k a b (i : Int) = some (decide (a.drop i = b.drop i)) := by
    intro i hi
    refine ⟨1, ?_⟩
    rw [kinkeepref35_Same.l0, if_neg (by omega), List.drop_of_length_le hi, List.drop_of_length_le (by omega)]
    simp
  intro m
  induction m with
  | zero => intro i h1 h2; exact ends i (by omega)
  | succ m ih =>
    intro i h1 h2
    by_cases h : i < a.length
    · obtain ⟨k, hk⟩ := ih (i + 1) (by omega) (by omega)
      have hk' := more (f := fun k => kinkeepref35_Same.l0 k a b ((i + 1 : Nat) : Int)) (fun k => kinkeepref35_Same.mono_l k a b _) (show k ≤ k + 1000001 by omega) hk
      have hs := sameInts (rd_L1 a i) (rd_L1 b i) (k + 1000001) (hr i h) (by have := hr i h; omega)
      have hw : wrap64 ((i : Int) + 1) = ((i + 1 : Nat) : Int) := by rw [w64 (by omega)]; rfl
      refine ⟨k + 1000001 + 1, ?_⟩
      have e1 : a.drop i = rd_L1 a i :: a.drop (i + 1) := by rw [rd1_eq a i h]; exact List.drop_eq_getElem_cons h
      have e2 : b.drop i = rd_L1 b i :: b.drop (i + 1) := by rw [rd1_eq b i (by omega)]; exact List.drop_eq_getElem_cons (by omega)
      have e3 : decide (a.drop i = b.drop i) = decide (rd_L1 a i = rd_L1 b i ∧ a.drop (i + 1) = b.drop (i + 1)) := by
        apply decide_eq_decide.2
        rw [e1, e2, List.cons.injEq]
      rw [kinkeepref35_Same.l0, if_pos (by omega), if_pos (by omega), if_pos (by omega), hs, Option.bind_some, hw, hk', e3]
      by_cases he : rd_L1 a i = rd_L1 b i
      · simp [he]
      · simp [he]
    · exact ends i (by omega)
theorem same_f (a b : List (List Int)) (hm : a.length ≤ 1000000) (hr : ∀ i : Nat, i < a.length → (rd_L1 a i).length ≤ 1000000) : ∃ k, kinkeepref35_Same.f k a b = some (decide (a = b)) := by
  by_cases h : a.length = b.length
  · obtain ⟨k, hk⟩ := same_go a b h hm hr a.length 0 (by omega) (by omega)
    refine ⟨k, ?_⟩
    unfold kinkeepref35_Same.f
    rw [if_pos (by omega)]
    simpa using hk
  · refine ⟨0, ?_⟩
    unfold kinkeepref35_Same.f
    rw [if_neg (by omega)]
    have : a ≠ b := fun e => h (by rw [e])
    simp [this]
theorem clone_go (t : List (List Int)) (hm : t.length ≤ 1000000) (hr : ∀ i : Nat, i < t.length → (rd_L1 t i).length ≤ 1000000) : ∀ (m i : Nat), t.length - i ≤ m → i ≤ t.length → ∃ k, kinkeepref35_Clone.l0 k t (t.take i) (i : Int) = some t := by
  have ends : ∀ i, t.length ≤ i → ∃ k, kinkeepref35_Clone.l0 k t (t.take i) (i : Int) = some t := by
    intro i hi
    refine ⟨1, ?_⟩
    rw [kinkeepref35_Clone.l0, if_neg (by omega), List.take_of_length_le hi]
  intro m
  induction m with
  | zero => intro i h1 h2; exact ends i (by omega)
  | succ m ih =>
    intro i h1 h2
    by_cases h : i < t.length
    · obtain ⟨k, hk⟩ := ih (i + 1) (by omega) (by omega)
      have hw : wrap64 ((i : Int) + 1) = ((i + 1 : Nat) : Int) := by rw [w64 (by omega)]; rfl
      have hri := hr i h
      have e : t.take (i + 1) = t.take i ++ [rd_L1 t i] := by rw [List.take_add_one, List.getElem?_eq_getElem h, Option.toList_some, rd1_eq t i h]
      refine ⟨k + 1, ?_⟩
      rw [kinkeepref35_Clone.l0, if_pos (by omega), Option.bind_some, if_pos (by omega), if_pos (by simp only [List.length_nil]; omega), if_pos (by rw [List.length_take]; omega), hw, List.nil_append, ← e]
      exact hk
    · exact ends i (by omega)
theorem clone_f (t : List (List Int)) (hm : t.length ≤ 1000000) (hr : ∀ i : Nat, i < t.length → (rd_L1 t i).length ≤ 1000000) : ∃ k, kinkeepref35_Clone.f k t = some t := clone_go t hm hr t.length 0 (by omega) (by omega)

/-! ### tables after a move -/
theorem get_mv {n : Nat} {t : List (List Int)} (hG : A.Good n t) (hn : n ≤ 12) {m : S29} (hm : A.mvOk n m = true) (hb : m.f3 ≤ A.get t m.f0 m.f2) (hc : A.get t m.f1 m.f2 + m.f3 ≤ 1099511627776) (a b : Int) (a0 : 0 ≤ a) (b0 : 0 ≤ b) :
    A.get (A.mv t m) a b = if b = m.f2 then (if a = m.f1 then A.get t a b + m.f3 else if a = m.f0 then A.get t a b - m.f3 else A.get t a b) else A.get t a b := by
  obtain ⟨f, g, o, x⟩ := m
  simp only [A.mvOk, A.moveOk, A.inI, Bool.and_eq_true, Bool.not_eq_true', beq_eq_false_iff_ne, decide_eq_true_eq] at hm
  obtain ⟨h1, ⟨f0, f1⟩, ⟨g0, g1⟩, ⟨o0, o1⟩, h2, h3, x0, x1⟩ := hm
  simp only at hb hc ⊢
  have b1 := hG.2 f o f0 f1 o0 o1
  have b2 := hG.2 g o g0 g1 o0 o1
  have hS : A.Sqn n (A.upd t f o (wrap64 (A.get t f o - x))) := hG.1.upd _ _ _
  have e1 : A.get (A.upd t f o (wrap64 (A.get t f o - x))) g o = A.get t g o := by
    rw [A.get_upd hG.1 f o _ g o f0 f1 o0 o1 g0 o0, if_neg (fun e => h1 e.1.symm)]
  unfold A.mv
  simp only
  rw [e1, w64 (show -9223372036854775808 ≤ A.get t g o + x ∧ _ by omega), A.get_upd hS g o _ a b g0 g1 o0 o1 a0 b0, A.get_upd hG.1 f o _ a b f0 f1 o0 o1 a0 b0, w64 (show -9223372036854775808 ≤ A.get t f o - x ∧ _ by omega)]
  by_cases hb : b = o
  · subst hb
    by_cases ha : a = g
    · subst ha; simp
    · by_cases ha' : a = f
      · subst ha'; simp [ha]
      · simp [ha, ha']
  · simp [hb]
theorem good_mv {n : Nat} {t : List (List Int)} (hG : A.Good n t) (hn : n ≤ 12) {m : S29} (hm : A.mvOk n m = true) (hb : m.f3 ≤ A.get t m.f0 m.f2) (hc : A.get t m.f1 m.f2 + m.f3 ≤ 1099511627776) : A.Good n (A.mv t m) := by
  refine ⟨hG.1.mv m, fun i j i0 i1 j0 j1 => ?_⟩
  rw [get_mv hG hn hm hb hc i j i0 j0]
  have h := hG.2 i j i0 i1 j0 j1
  obtain ⟨f, g, o, x⟩ := m
  simp only [A.mvOk, A.moveOk, A.inI, Bool.and_eq_true, Bool.not_eq_true', beq_eq_false_iff_ne, decide_eq_true_eq] at hm
  simp only at hb hc ⊢
  by_cases h1 : j = o
  · subst h1
    rw [if_pos rfl]
    by_cases h2 : i = g
    · subst h2; rw [if_pos rfl]; omega
    · rw [if_neg h2]
      by_cases h3 : i = f
      · subst h3; rw [if_pos rfl]; omega
      · rw [if_neg h3]; exact h
  · rw [if_neg h1]; exact h
end Go.Proofs.Ytdljbmgknhbceaa.P

namespace Go.Proofs.Ytdljbmgknhbceaa.P
open Go.RowKit Go.Proofs.YtdljbmgknhbceaaW.PrintWords Go.Proofs.Ytdljbmgknhbceaa.Q
set_option linter.unusedVariables false
set_option linter.unusedSimpArgs false
set_option linter.unusedSectionVars false

/-! ### one move and the balances -/
theorem isum_pt (p : Nat) (v : Int) : ∀ n, isum (fun i => if i = p then v else 0) n = if p < n then v else 0 := by
  intro n
  induction n with
  | zero => rfl
  | succ n ih =>
    rw [isum, ih]
    by_cases h1 : p < n
    · rw [if_pos h1, if_neg (by omega), if_pos (by omega)]; omega
    · rw [if_neg h1]
      by_cases h2 : n = p
      · rw [if_pos h2, if_pos (by omega)]; omega
      · rw [if_neg h2, if_neg (by omega)]; rfl
theorem rd_balT {t : List (List Int)} (hv : A.validT t = true) (d : Nat) (hd : d < t.length) : rd (A.balT t) d = bF t t.length 0 d := by
  rw [balT_eq hv, rd_eq _ d (by simpa using hd)]; simp
theorem tab_ext {n : Nat} {s t : List (List Int)} (hs : A.Sqn n s) (ht : A.Sqn n t) (h : ∀ i j : Nat, i < n → j < n → A.get s i j = A.get t i j) : s = t := by
  refine List.ext_getElem (by rw [hs.1, ht.1]) (fun i h1 h2 => ?_)
  have hi : i < n := by rw [← hs.1]; exact h1
  have ls := hs.2 i (by omega) (by omega)
  have lt := ht.2 i (by omega) (by omega)
  rw [rd1_eq s i h1] at ls
  rw [rd1_eq t i h2] at lt
  refine List.ext_getElem (by rw [ls, lt]) (fun j h3 h4 => ?_)
  have := h i j hi (by omega)
  unfold A.get at this
  rw [rd1_eq s i h1, rd1_eq t i h2, rd_eq _ j h3, rd_eq _ j h4] at this
  exact this
theorem valid_of_good {n : Nat} {t : List (List Int)} (hG : A.Good n t) (hn : n ≤ 12) (hd : ∀ i : Nat, i < n → A.get t i i = 0) : A.validT t = true := by
  have hl := hG.1.1
  refine validT_of (by omega) (fun i hi => ?_) (fun i hi => hd i (by omega)) (fun i j hi hj => hG.2 i j (by omega) (by omega) (by omega) (by omega))
  have := hG.1.2 i (by omega) (by omega)
  omega
section
variable {n : Nat} {t : List (List Int)} (hv : A.validT t = true) (hn : t.length = n) {f g o : Nat} {x : Int} (hf : f < n) (hg : g < n) (ho : o < n) (h1 : f ≠ g) (h2 : o ≠ f) (h3 : o ≠ g) (x0 : 1 ≤ x) (x1 : x ≤ 1099511627776)
  (hb : x ≤ A.get t f o) (hc : A.get t g o + x ≤ 1099511627776)
include hv hn hf hg ho h1 h2 h3 x0 x1 hb hc
theorem mv_ok : A.mvOk n ⟨f, g, o, x⟩ = true := by
  simp only [A.mvOk, A.moveOk, A.inI, Bool.and_eq_true, Bool.not_eq_true', beq_eq_false_iff_ne, decide_eq_true_eq]
  exact ⟨by omega, ⟨by omega, by omega⟩, ⟨by omega, by omega⟩, ⟨by omega, by omega⟩, by omega, by omega, x0, x1⟩
theorem mv_get (a b : Nat) : A.get (A.mv t ⟨f, g, o, x⟩) a b = A.get t a b + (if a = g ∧ b = o then x else 0) - (if a = f ∧ b = o then x else 0) := by
  have hG := A.valid_good hv
  have h12 := (A.valid_sq hv).1
  rw [hn] at hG
  have key := get_mv hG (by omega) (mv_ok hv hn hf hg ho h1 h2 h3 x0 x1 hb hc) hb hc a b (by omega) (by omega)
  simp only [Int.natCast_inj] at key
  rw [key]
  clear key
  repeat' split
  all_goals omega
theorem mv_good : A.Good n (A.mv t ⟨f, g, o, x⟩) := by
  have hG := A.valid_good hv
  have h12 := (A.valid_sq hv).1
  rw [hn] at hG
  exact good_mv hG (by omega) (mv_ok hv hn hf hg ho h1 h2 h3 x0 x1 hb hc) hb hc
theorem mv_valid : A.validT (A.mv t ⟨f, g, o, x⟩) = true := by
  have h12 := (A.valid_sq hv).1
  refine valid_of_good (mv_good hv hn hf hg ho h1 h2 h3 x0 x1 hb hc) (by omega) (fun i hi => ?_)
  rw [mv_get hv hn hf hg ho h1 h2 h3 x0 x1 hb hc, valid_diag hv i (by omega), if_neg (by omega), if_neg (by omega)]
  rfl
theorem mv_bF (d : Nat) (hd : d < n) : bF (A.mv t ⟨f, g, o, x⟩) n 0 d = bF t n 0 d + (if d = f then x else 0) - (if d = g then x else 0) := by
  have hl : (A.mv t ⟨f, g, o, x⟩).length = n := (mv_good hv hn hf hg ho h1 h2 h3 x0 x1 hb hc).1.1
  have e1 := bF_all (A.mv t ⟨f, g, o, x⟩) d (by omega)
  have e2 := bF_all t d (by omega)
  rw [hl] at e1
  rw [hn] at e2
  have gt := mv_get hv hn hf hg ho h1 h2 h3 x0 x1 hb hc
  have col : isum (fun i => A.get (A.mv t ⟨f, g, o, x⟩) i d) n = isum (fun i => A.get t i d) n := by
    by_cases e : d = o
    · subst e
      have : isum (fun i => A.get (A.mv t ⟨f, g, d, x⟩) i d) n = isum (fun i => A.get t i d + (if i = g then x else 0) - (if i = f then x else 0)) n :=
        isum_congr (fun i _ => by rw [gt i d]; simp)
      rw [this, isum_sub (fun i => A.get t i d + (if i = g then x else 0)), isum_add, isum_pt, isum_pt, if_pos hg, if_pos hf]; omega
    · exact isum_congr (fun i _ => by rw [gt i d, if_neg (fun h => e h.2), if_neg (fun h => e h.2)]; omega)
  have row : isum (fun j => A.get (A.mv t ⟨f, g, o, x⟩) d j) n = isum (fun j => A.get t d j) n + (if d = g then x else 0) - (if d = f then x else 0) := by
    by_cases e3 : d = g
    · have : isum (fun j => A.get (A.mv t ⟨f, g, o, x⟩) d j) n = isum (fun j => A.get t d j + (if j = o then x else 0)) n :=
        isum_congr (fun j _ => by
          rw [gt d j, if_neg (show ¬ (d = f ∧ j = o) from by omega)]
          by_cases ej : j = o
          · rw [if_pos ⟨e3, ej⟩, if_pos ej]; omega
          · rw [if_neg (fun h => ej h.2), if_neg ej]; omega)
      rw [this, isum_add, isum_pt, if_pos ho, if_pos e3, if_neg (by omega)]; omega
    · by_cases e4 : d = f
      · have : isum (fun j => A.get (A.mv t ⟨f, g, o, x⟩) d j) n = isum (fun j => A.get t d j - (if j = o then x else 0)) n :=
          isum_congr (fun j _ => by
            rw [gt d j, if_neg (show ¬ (d = g ∧ j = o) from by omega)]
            by_cases ej : j = o
            · rw [if_pos ⟨e4, ej⟩, if_pos ej]; omega
            · rw [if_neg (fun h => ej h.2), if_neg ej]; omega)
        rw [this, isum_sub, isum_pt, if_pos ho, if_neg e3, if_pos e4]; omega
      · rw [if_neg e3, if_neg e4]
        have : isum (fun j => A.get (A.mv t ⟨f, g, o, x⟩) d j) n = isum (fun j => A.get t d j) n :=
          isum_congr (fun j _ => by rw [gt d j, if_neg (fun h => e3 h.1), if_neg (fun h => e4 h.1)]; omega)
        rw [this]; omega
  rw [e1, e2, col, row]
  omega
end
end Go.Proofs.Ytdljbmgknhbceaa.P
