import Derived.Test.YtdljbmgknhbceaaQx62
import Derived.Test.YtdljbmgknhbceaaPl
namespace Go.Proofs.Ytdljbmgknhbceaa.Pure
open Go.RowKit Go.Proofs.YtdljbmgknhbceaaW.PrintWords Go.Proofs.Ytdljbmgknhbceaa.Q Go.Proofs.Ytdljbmgknhbceaa.P
set_option linter.unusedVariables false
set_option linter.unusedSimpArgs false
def cv (m : S24) : S29 := ⟨m.f0, m.f1, m.f2, m.f3⟩
theorem rd24_eq (l : List S24) (i : Nat) (h : i < l.length) : rd_T24 l i = l[i] := by simp [rd_T24, List.getD_eq_getElem?_getD, List.getElem?_eq_getElem h]
theorem moved_f (n a b c d : Int) : kinkeepref35_Moved.f n a b c d = some (A.moveOk n a b c d) := by
  unfold kinkeepref35_Moved.f kinkeepref35_device.f A.moveOk A.inI
  by_cases a0 : 0 ≤ a
  · by_cases a1 : a < n
    · by_cases b0 : 0 ≤ b
      · by_cases b1 : b < n
        · by_cases c0 : 0 ≤ c
          · by_cases c1 : c < n
            · by_cases e1 : a = b
              · simp [a0, a1, b0, b1, c0, c1, e1]
              · by_cases e2 : a = c
                · simp [a0, a1, b0, b1, c0, c1, e1, e2]
                · by_cases e3 : b = c
                  · simp [a0, a1, b0, b1, c0, c1, e1, e2, e3]
                  · by_cases d1 : 1 ≤ d
                    · have z1 : (c == a) = false := beq_eq_false_iff_ne.2 (fun e => e2 e.symm)
                      have z2 : (c == b) = false := beq_eq_false_iff_ne.2 (fun e => e3 e.symm)
                      have z3 : (a == b) = false := beq_eq_false_iff_ne.2 e1
                      simp [a0, a1, b0, b1, c0, c1, e1, e2, e3, d1, z1, z2, z3]
                    · simp [a0, a1, b0, b1, c0, c1, e1, e2, e3, d1]
            · simp [a0, a1, b0, b1, c0, c1]
          · simp [a0, a1, b0, b1, c0]
        · simp [a0, a1, b0, b1]
      · simp [a0, a1, b0]
    · simp [a0, a1]
  · simp [a0]
theorem apply_l1 {n : Nat} (hn : n ≤ 12) (ms : List S24) (hm : ms.length ≤ 1000) : ∀ (m i : Nat) (t : List (List Int)), ms.length - i ≤ m → i ≤ ms.length → A.Good n t → A.badMoves n ((ms.drop i).map cv) = false →
    ∃ k, kinkeepref35_Apply.l1 k ms t (i : Int) = some (A.applyGo t ((ms.drop i).map cv)) := by
  have ends : ∀ (i : Nat) (t : List (List Int)), ms.length ≤ i → ∃ k, kinkeepref35_Apply.l1 k ms t (i : Int) = some (A.applyGo t ((ms.drop i).map cv)) := by
    intro i t hi
    refine ⟨1, ?_⟩
    rw [kinkeepref35_Apply.l1, if_neg (by omega), List.drop_of_length_le hi]
    rfl
  intro m
  induction m with
  | zero => intro i t h1 h2 hG hb; exact ends i t (by omega)
  | succ m ih =>
    intro i t h1 h2 hG hb
    by_cases h : i < ms.length
    · have hw : wrap64 ((i : Int) + 1) = ((i + 1 : Nat) : Int) := by rw [w64 (by omega)]; rfl
      rw [List.drop_eq_getElem_cons h, List.map_cons] at hb ⊢
      have hr := rd24_eq ms i h
      obtain ⟨hm0, hb'⟩ : A.mvOk n (cv ms[i]) = true ∧ A.badMoves n ((ms.drop (i + 1)).map cv) = false := by
        simp only [A.badMoves, List.any_cons, Bool.or_eq_false_iff, Bool.not_eq_false'] at hb
        exact ⟨by simpa using hb.1, hb.2⟩
      generalize hmm : ms[i] = mm at hr hm0
      obtain ⟨f, g, o, x⟩ := mm
      have hok := hm0
      simp only [cv, A.mvOk, A.moveOk, A.inI, Bool.and_eq_true, Bool.not_eq_true', beq_eq_false_iff_ne, decide_eq_true_eq] at hm0
      obtain ⟨g1, ⟨f0, f1⟩, ⟨q0, q1⟩, ⟨o0, o1⟩, g2, g3, x0, x1⟩ := hm0
      have f0 : 0 ≤ f := of_decide_eq_true f0
      have q0 : 0 ≤ g := of_decide_eq_true q0
      have o0 : 0 ≤ o := of_decide_eq_true o0
      have f1 : f < n := of_decide_eq_true f1
      have q1 : g < n := of_decide_eq_true q1
      have o1 : o < n := of_decide_eq_true o1
      have x0 : 1 ≤ x := of_decide_eq_true x0
      have x1 : x ≤ 1099511627776 := of_decide_eq_true x1
      have lt := hG.1.1
      have lf := hG.1.2 f f0 f1
      have lg := hG.1.2 g q0 q1
      have b1 := hG.2 f o f0 f1 o0 o1
      have b2 := hG.2 g o q0 q1 o0 o1
      have e1 : rd (rd_L1 t f) o = A.get t f o := rfl
      have e2 : rd (rd_L1 t g) o = A.get t g o := rfl
      have eA : ∀ r, A.applyGo t (cv ⟨f, g, o, x⟩ :: r) = if A.get t f o < x then ([], 6) else if 1099511627776 - x < A.get t g o then ([], 2) else A.applyGo (A.mv t ⟨f, g, o, x⟩) r := fun r => rfl
      rw [eA]
      by_cases c1 : A.get t f o < x
      · refine ⟨1, ?_⟩
        rw [kinkeepref35_Apply.l1, if_pos (by omega), if_pos (by omega)]
        simp only [hr]
        rw [if_pos f0, if_pos (by omega), if_pos o0, if_pos (by omega), e1, if_pos c1, if_pos c1]
      · by_cases c2 : 1099511627776 - x < A.get t g o
        · refine ⟨1, ?_⟩
          rw [kinkeepref35_Apply.l1, if_pos (by omega), if_pos (by omega)]
          simp only [hr]
          rw [if_pos f0, if_pos (by omega), if_pos o0, if_pos (by omega), e1, if_neg c1, if_pos q0, if_pos (by omega), if_pos (by omega), e2, w64 (by omega), if_pos (by omega), if_neg c1, if_pos c2]
        · have hG' := good_mv hG hn (m := ⟨f, g, o, x⟩) hok (by simp only; omega) (by simp only; omega)
          obtain ⟨k, hk⟩ := ih (i + 1) _ (by omega) (by omega) hG' hb'
          refine ⟨k + 1, ?_⟩
          have ly : (rd_L1 (A.upd t f o (wrap64 (A.get t f o - x))) g).length = n := (hG.1.upd f o _).2 g q0 q1
          rw [kinkeepref35_Apply.l1, if_pos (by omega), if_pos (by omega)]
          simp only [hr]
          rw [if_pos f0, if_pos (by omega), if_pos o0, if_pos (by omega), e1, if_neg c1, if_pos q0, if_pos (by omega), if_pos (by omega), e2, w64 (show -9223372036854775808 ≤ A.get t g o + x ∧ _ by omega), if_neg (by omega), Option.bind_some, if_neg c1, if_neg c2, hw]
          refine Eq.trans (if_pos ?_) hk
          show o < ((rd_L1 (A.upd t f o (wrap64 (A.get t f o - x))) g).length : Int)
          omega
    · exact ends i t (by omega)
theorem apply_l0 (t : List (List Int)) (ms : List S24) (hm : ms.length ≤ 1000) (r : List (List Int) × Int) (hl : ∃ k, ((kinkeepref35_Clone.f k t).bind fun c => kinkeepref35_Apply.l1 k ms c 0) = some r) : ∀ (m i : Nat), ms.length - i ≤ m → i ≤ ms.length →
    ∃ k, kinkeepref35_Apply.l0 k t ms (i : Int) = some (if A.badMoves t.length ((ms.drop i).map cv) = true then ([], 1) else r) := by
  have ends : ∀ i : Nat, ms.length ≤ i → ∃ k, kinkeepref35_Apply.l0 k t ms (i : Int) = some (if A.badMoves t.length ((ms.drop i).map cv) = true then ([], 1) else r) := by
    intro i hi
    obtain ⟨k, hk⟩ := hl
    refine ⟨k + 1, ?_⟩
    rw [kinkeepref35_Apply.l0, if_neg (by omega), List.drop_of_length_le hi]
    exact hk
  intro m
  induction m with
  | zero => intro i h1 h2; exact ends i (by omega)
  | succ m ih =>
    intro i h1 h2
    by_cases h : i < ms.length
    · have hw : wrap64 ((i : Int) + 1) = ((i + 1 : Nat) : Int) := by rw [w64 (by omega)]; rfl
      obtain ⟨k, hk⟩ := ih (i + 1) (by omega) (by omega)
      have hr := rd24_eq ms i h
      refine ⟨k + 1, ?_⟩
      rw [kinkeepref35_Apply.l0, if_pos (by omega), if_pos (by omega), moved_f, Option.bind_some, hr, List.drop_eq_getElem_cons h, List.map_cons]
      have e : A.moveOk (t.length : Int) ms[i].f0 ms[i].f1 ms[i].f2 ms[i].f3 = A.mvOk t.length (cv ms[i]) := rfl
      rw [e]
      cases hb : A.mvOk t.length (cv ms[i]) with
      | false => simp [A.badMoves, hb]
      | true =>
        rw [if_pos rfl, hw, hk]
        simp [A.badMoves, hb]
    · exact ends i (by omega)
theorem apply_bad (t : List (List Int)) (ms : List S24) (hm : ms.length ≤ 1000) : ∀ (m i : Nat), ms.length - i ≤ m → i ≤ ms.length → A.badMoves t.length ((ms.drop i).map cv) = true →
    ∃ k, kinkeepref35_Apply.l0 k t ms (i : Int) = some ([], 1) := by
  intro m
  induction m with
  | zero => intro i h1 h2 hb; rw [List.drop_of_length_le (by omega)] at hb; simp [A.badMoves] at hb
  | succ m ih =>
    intro i h1 h2 hb
    by_cases h : i < ms.length
    · have hw : wrap64 ((i : Int) + 1) = ((i + 1 : Nat) : Int) := by rw [w64 (by omega)]; rfl
      have hr := rd24_eq ms i h
      rw [List.drop_eq_getElem_cons h, List.map_cons] at hb
      have e : A.moveOk (t.length : Int) ms[i].f0 ms[i].f1 ms[i].f2 ms[i].f3 = A.mvOk t.length (cv ms[i]) := rfl
      cases hc : A.mvOk t.length (cv ms[i]) with
      | false =>
        refine ⟨1, ?_⟩
        rw [kinkeepref35_Apply.l0, if_pos (by omega), if_pos (by omega), moved_f, Option.bind_some, hr, e, hc, if_neg (by simp)]
      | true =>
        obtain ⟨k, hk⟩ := ih (i + 1) (by omega) (by omega) (by simpa [A.badMoves, hc] using hb)
        refine ⟨k + 1, ?_⟩
        rw [kinkeepref35_Apply.l0, if_pos (by omega), if_pos (by omega), moved_f, Option.bind_some, hr, e, hc, if_pos rfl, hw, hk]
    · rw [List.drop_of_length_le (by omega)] at hb; simp [A.badMoves] at hb
theorem applyGo_good {n : Nat} (hn : n ≤ 12) : ∀ (ms : List S29) (t : List (List Int)), A.Good n t → A.badMoves n ms = false → (A.applyGo t ms).1 = [] ∨ (A.Good n (A.applyGo t ms).1 ∧ (A.applyGo t ms).2 = 0) := by
  intro ms
  induction ms with
  | nil => intro t hG _; exact Or.inr ⟨hG, rfl⟩
  | cons m ms ih =>
    intro t hG hb
    simp only [A.badMoves, List.any_cons, Bool.or_eq_false_iff, Bool.not_eq_false'] at hb
    unfold A.applyGo
    by_cases c1 : A.get t m.f0 m.f2 < m.f3
    · rw [if_pos c1]; exact Or.inl rfl
    · by_cases c2 : 1099511627776 - m.f3 < A.get t m.f1 m.f2
      · rw [if_neg c1, if_pos c2]; exact Or.inl rfl
      · rw [if_neg c1, if_neg c2]
        exact ih _ (good_mv hG hn (by simpa using hb.1) (by omega) (by omega)) hb.2
theorem apply_f (t : List (List Int)) (ms : List S24) (ht : t.length ≤ 14) (hm : ms.length ≤ 1000) : ∃ k, kinkeepref35_Apply.f k t ms = some (A.applyOut t (ms.map cv)) := by
  obtain ⟨k1, e1⟩ := valid_f t (by omega)
  cases hv : A.validT t with
  | false =>
    refine ⟨k1, ?_⟩
    rw [kinkeepref35_Apply.f, e1, hv, Option.bind_some, if_neg (by simp)]
    simp [A.applyOut, hv]
  | true =>
    have hG := A.valid_good hv
    have h12 := (A.valid_sq hv).1
    obtain ⟨k2, e2⟩ := clone_f t (by omega) (fun i hi => by rw [sq_of hv i hi]; omega)
    have hl : ∃ k, ((kinkeepref35_Clone.f k t).bind fun c => kinkeepref35_Apply.l1 k ms c 0) = some (if A.badMoves t.length (ms.map cv) = true then ([], 1) else A.applyGo t (ms.map cv)) ∨ A.badMoves t.length (ms.map cv) = true := by
      cases hb : A.badMoves t.length (ms.map cv) with
      | true => exact ⟨0, Or.inr rfl⟩
      | false =>
        obtain ⟨k3, e3⟩ := apply_l1 h12 ms hm ms.length 0 t (by omega) (by omega) hG (by rw [List.drop_zero]; exact hb)
        have m2 := more (f := fun k => kinkeepref35_Clone.f k t) (fun k => kinkeepref35_Clone.mono t k) (show k2 ≤ k2 + k3 by omega) e2
        have m3 := more (f := fun k => kinkeepref35_Apply.l1 k ms t ((0 : Nat) : Int)) (fun k => (kinkeepref35_Apply.mono_l k).2 ms t _) (show k3 ≤ k2 + k3 by omega) e3
        refine ⟨k2 + k3, Or.inl ?_⟩
        rw [m2, Option.bind_some, if_neg (by simp)]
        rw [List.drop_zero] at m3
        exact m3
    have fin : ∃ k, kinkeepref35_Apply.l0 k t ms ((0 : Nat) : Int) = some (if A.badMoves t.length (ms.map cv) = true then ([], 1) else A.applyGo t (ms.map cv)) := by
      obtain ⟨k3, h3⟩ := hl
      rcases h3 with h3 | hb
      · obtain ⟨k, hk⟩ := apply_l0 t ms hm _ ⟨k3, h3⟩ ms.length 0 (by omega) (by omega)
        refine ⟨k, ?_⟩
        rw [List.drop_zero] at hk
        rw [hk]
        cases A.badMoves t.length (ms.map cv) <;> simp
      · obtain ⟨k, hk⟩ := apply_bad t ms hm ms.length 0 (by omega) (by omega) (by rw [List.drop_zero]; exact hb)
        exact ⟨k, by rw [hk, if_pos hb]⟩
    obtain ⟨k4, e4⟩ := fin
    have m1 := more (f := fun k => kinkeepref35_Valid.f k t) (fun k => kinkeepref35_Valid.mono t k) (show k1 ≤ k1 + k4 by omega) e1
    have m4 := more (f := fun k => kinkeepref35_Apply.l0 k t ms ((0 : Nat) : Int)) (fun k => (kinkeepref35_Apply.mono_l k).1 t ms _) (show k4 ≤ k1 + k4 by omega) e4
    refine ⟨k1 + k4, ?_⟩
    rw [kinkeepref35_Apply.f, m1, hv, Option.bind_some, if_pos rfl]
    refine Eq.trans m4 ?_
    unfold A.applyOut
    cases A.badMoves t.length (ms.map cv) <;> simp [hv]
theorem applies_l0 (t : List (List Int)) (ms : List S24) (hm : ms.length ≤ 1000) (r : Bool) (hl : ∃ k, ((quota_Apply.f k t (ms.map cv)).bind fun bt736 => ((kinkeepref35_Apply.f k t ms).bind fun bt740 => (if bt736.2 = bt740.2 then ((kinkeepref35_Same.f k bt736.1 bt740.1).bind fun t744 => (some t744)) else (some false)))) = some r) : ∀ (m i : Nat), ms.length - i ≤ m → i ≤ ms.length →
    ∃ k, kinkeeplaw35_QuotaApplies.l0 k t ms ((ms.take i).map cv) (i : Int) = some r := by
  have ends : ∀ i : Nat, ms.length ≤ i → ∃ k, kinkeeplaw35_QuotaApplies.l0 k t ms ((ms.take i).map cv) (i : Int) = some r := by
    intro i hi
    obtain ⟨k, hk⟩ := hl
    refine ⟨k + 1, ?_⟩
    rw [kinkeeplaw35_QuotaApplies.l0, if_neg (by omega), List.take_of_length_le hi]
    exact hk
  intro m
  induction m with
  | zero => intro i h1 h2; exact ends i (by omega)
  | succ m ih =>
    intro i h1 h2
    by_cases h : i < ms.length
    · have hw : wrap64 ((i : Int) + 1) = ((i + 1 : Nat) : Int) := by rw [w64 (by omega)]; rfl
      obtain ⟨k, hk⟩ := ih (i + 1) (by omega) (by omega)
      have hr := rd24_eq ms i h
      have e : (ms.take (i + 1)).map cv = (ms.take i).map cv ++ [cv ms[i]] := by rw [List.take_add_one, List.getElem?_eq_getElem h, Option.toList_some, List.map_append]; rfl
      refine ⟨k + 1, ?_⟩
      rw [kinkeeplaw35_QuotaApplies.l0, if_pos (by omega), if_pos (by omega), if_pos (by rw [List.length_map, List.length_take]; omega), hw, hr]
      rw [e] at hk
      exact hk
    · exact ends i (by omega)
theorem quotaApplies (t : List (List Int)) (ms : List S24) (_h0 : ∀ row ∈ t, ∀ x ∈ row, (Lit.int .i64 x).wf = true) : ∃ k, kinkeeplaw35_QuotaApplies.f k t ms = some true := by
  by_cases hl : (t.length : Int) > 14
  · refine ⟨1, ?_⟩
    simp only [kinkeeplaw35_QuotaApplies.f, kinkeeplaw35_awake.f, Option.bind_some, if_true, if_pos hl, kinkeeplaw35_QuotaApplies.j0]
  · by_cases hq : (ms.length : Int) > 30
    · refine ⟨1, ?_⟩
      simp only [kinkeeplaw35_QuotaApplies.f, kinkeeplaw35_awake.f, Option.bind_some, if_true, if_neg hl, decide_eq_true hq, kinkeeplaw35_QuotaApplies.j0]
    · obtain ⟨k1, e1⟩ := apply_f t ms (by omega) (by omega)
      have hs : ∃ k, kinkeepref35_Same.f k (A.applyOut t (ms.map cv)).1 (A.applyOut t (ms.map cv)).1 = some true := by
        have small : (A.applyOut t (ms.map cv)).1 = [] ∨ A.Good t.length (A.applyOut t (ms.map cv)).1 := by
          unfold A.applyOut
          split
          · rename_i hh
            have h12 := (A.valid_sq hh.1).1
            rcases applyGo_good h12 (ms.map cv) t (A.valid_good hh.1) hh.2 with h | h
            · exact Or.inl h
            · exact Or.inr h.1
          · exact Or.inl rfl
        obtain ⟨k, hk⟩ := same_f (A.applyOut t (ms.map cv)).1 (A.applyOut t (ms.map cv)).1 (by
          rcases small with h | h
          · rw [h]; simp
          · have := h.1.1; omega) (fun i hi => by
          rcases small with h | h
          · rw [h] at hi; simp at hi
          · have h1 := h.1.1
            have := h.1.2 i (by omega) (by omega)
            omega)
        exact ⟨k, by rw [hk]; simp⟩
      obtain ⟨k2, e2⟩ := hs
      have m1 := more (f := fun k => kinkeepref35_Apply.f k t ms) (fun k => kinkeepref35_Apply.mono t ms k) (show k1 ≤ k1 + k2 by omega) e1
      have m2 := more (f := fun k => kinkeepref35_Same.f k (A.applyOut t (ms.map cv)).1 (A.applyOut t (ms.map cv)).1) (fun k => kinkeepref35_Same.mono _ _ k) (show k2 ≤ k1 + k2 by omega) e2
      obtain ⟨k, hk⟩ := applies_l0 t ms (by omega) true ⟨k1 + k2, by rw [quota_Apply.f, Option.bind_some, m1, Option.bind_some, if_pos rfl, m2]; rfl⟩ ms.length 0 (by omega) (by omega)
      refine ⟨k + 1, ?_⟩
      simp only [kinkeeplaw35_QuotaApplies.f, kinkeeplaw35_awake.f, Option.bind_some, if_true, if_neg hl, decide_eq_false hq]
      rw [kinkeeplaw35_QuotaApplies.j0, if_neg (by simp)]
      exact hk
end Go.Proofs.Ytdljbmgknhbceaa.Pure
