import Derived.Test.YtdljbmgknhbceaaA3
namespace Go.Proofs.Ytdljbmgknhbceaa.A
open Go.RowKit Go.Proofs.YtdljbmgknhbceaaW.PrintWords Go.Proofs.YtdljbmgknhbceaaW.PrintLast Go.Proofs.YtdljbmgknhbceaaW.PrintMore Go.Proofs.Ytdljbmgknhbceaa.Q
set_option linter.unusedVariables false
set_option linter.unusedSimpArgs false

/-- The first index of a number in a list, or -1. -/
def indexFrom (x : Int) : List Int → Nat → Int
  | [], _ => -1
  | y :: ys, i => if x = y then (i : Int) else indexFrom x ys (i + 1)
theorem indexFrom_ge (x : Int) (l : List Int) (i : Nat) : decide (0 ≤ indexFrom x l i) = l.contains x := by
  induction l generalizing i with
  | nil => rfl
  | cons y ys ih =>
    unfold indexFrom
    by_cases h : x = y
    · simp [h]
    · rw [if_neg h, ih]
      simp [h]
theorem indexFrom_drop (x : Int) (l : List Int) (k : Nat) (hk : k < l.length) : indexFrom x (l.drop k) k = if x = rd l k then (k : Int) else indexFrom x (l.drop (k + 1)) (k + 1) := by
  rw [List.drop_eq_getElem_cons hk, indexFrom]
  simp [rd, List.getD_eq_getElem?_getD, List.getElem?_eq_getElem hk]

set_option maxHeartbeats 400000 in
theorem index_any (A : Option Addr) (c : Nat) (l : List Int) (x : Int) (w : World) (hr : Kd.C (Kd.int .i64) w A l.length l) :
    Calls Try.prog 75 #[.slice A l.length c, .int .i64 x] w fun e w' => e = .returned (.int .i64 (indexFrom x l 0)) ∧ Drawn0 w w' := by
  have HR := Aside0.mk hr
  have hm : l.length ≤ 9223372036854775807 := hr.2.1
  clear hr
  go_enter Try.func75, Try.ntmps75
  go_wp2
  go_loopw [8] (fun i w' => ∃ k : Nat, k ≤ l.length ∧ i = .int .i64 k ∧ Aside0 (indexFrom x l 0 = indexFrom x (l.drop k) k) ∧ Drawn0 w w') (fun i _ => l.length - (intOf i).toNat)
  case atStart => exact ⟨0, by omega, rfl, ⟨rfl⟩, Drawn0.refl _⟩
  case round =>
    obtain ⟨k, hk, rfl, HB, ⟨m, rfl⟩⟩ := hrel
    by_cases hlt : k < l.length
    · obtain ⟨ad, e, hx⟩ := Kd.at_int HR.out k (by omega) (by omega)
      cases e
      rw [Int.toNat_natCast] at hx
      have hs := Aside0.mk (indexFrom_drop x l k hlt)
      have p0 : (0 : Int) ≤ k := by omega
      have p1 : (k : Int) < l.length := by omega
      by_cases hb : x = rd l k
      · have hb' := Aside0.mk hb
        have hn : (x == rd l k) = true := beq_iff_eq.2 hb
        have hn2 : (rd l k == x) = true := beq_iff_eq.2 hb.symm
        clear hb
        go_wp2
        repeat (go_quiet (fail); try go_wp2)
        go_ret
        exact ⟨by rw [HB.out, hs.out, if_pos hb'.out]; rfl, by repeat (first | exact Drawn0.refl _ | apply Drawn0.step)⟩
      · have hb' := Aside0.mk hb
        have hn : (x == rd l k) = false := beq_eq_false_iff_ne.2 hb
        have hn2 : (rd l k == x) = false := beq_eq_false_iff_ne.2 (Ne.symm hb)
        clear hb
        go_wp2
        repeat (go_quiet (fail); try go_wp2)
        go_roundw
        case rel => exact ⟨k + 1, by omega, by go_num, ⟨by rw [HB.out, hs.out, if_neg hb'.out]⟩, by repeat (first | exact Drawn0.refl _ | apply Drawn0.step)⟩
        case measure => simp [intOf]; omega
    · have hd : Aside0 (indexFrom x l 0 = -1) := ⟨by rw [HB.out, List.drop_of_length_le (by omega)]; rfl⟩
      go_wp2
      go_ret
      exact ⟨by rw [hd.out]; rfl, by repeat (first | exact Drawn0.refl _ | apply Drawn0.step)⟩

theorem contains_any (A : Option Addr) (c : Nat) (l : List Int) (x : Int) (w : World) (hr : Kd.C (Kd.int .i64) w A l.length l) :
    Calls Try.prog 71 #[.slice A l.length c, .int .i64 x] w fun e w' => e = .returned (.bool (l.contains x)) ∧ Drawn0 w w' := by
  have HR := Aside0.mk hr
  clear hr
  have hb := Aside0.mk (indexFrom_ge x l 0)
  go_enter Try.func71, Try.ntmps71
  go_wp2_with (go_at_call 75; refine (index_any _ _ _ _ _ HR.out).mono ?_; rintro e w' ⟨rfl, ⟨m, rfl⟩⟩)
  go_ret
  exact ⟨by rw [← hb.out]; rfl, by repeat (first | exact Drawn0.refl _ | apply Drawn0.step)⟩

/-- The variables of 'cycle' as its closure sees them. -/
structure St (w0 W : World) (bp bl bt be : Nat) (T : Value) (len : Int) (v : Value) (path : List Int) : Prop where
  below : Below w0.heap.size w0 W
  p : W.heap[bp]? = some (.cells #[v] 31 (0, 0))
  l : W.heap[bl]? = some (.cells #[.int .i64 len] 3 (0, 0))
  t : W.heap[bt]? = some (.cells #[T] 22 (0, 0))
  e : W.heap[be]? = some (.cells #[.func (.func 70) #[] #[.pointer (some ⟨bp, 0, none⟩), .pointer (some ⟨bl, 0, none⟩), .pointer (some ⟨bt, 0, none⟩), .pointer (some ⟨be, 0, none⟩)]] 25 (0, 0))
  r : Kd.R (Kd.int .i64) 3 W w0.heap.size (fun k => k ≠ bl) v path
  hp : w0.heap.size ≤ bp

section
variable {w0 W w1 : World} {bp bl bt be : Nat} {T v v' : Value} {len : Int} {path path' : List Int}
theorem St.drewN (h : St w0 W bp bl bt be T len v path) (m : Nat) : St w0 (W.drewN m) bp bl bt be T len v path :=
  ⟨pw_below_drewN h.below m, h.p, h.l, h.t, h.e, Kd.R_drewN h.r m, h.hp⟩
theorem St.ne (h : St w0 W bp bl bt be T len v path) : some bp ≠ v.ownBlock ∧ some bl ≠ v.ownBlock ∧ some bt ≠ v.ownBlock ∧ some be ≠ v.ownBlock :=
  ⟨Kd.R_ne h.r h.p (by decide), fun e => h.r.1 _ e.symm rfl, Kd.R_ne h.r h.t (by decide), Kd.R_ne h.r h.e (by decide)⟩
theorem blk_ne {W : World} {a b : Nat} {x y : Array Value} {s t : TypeId} (ha : W.heap[a]? = some (.cells x s (0, 0))) (hb : W.heap[b]? = some (.cells y t (0, 0))) (hst : s ≠ t) : a ≠ b := by
  rintro rfl
  rw [ha] at hb
  injection hb with hb
  injection hb with _ hb
  exact hst hb
/-- The row has been written or has moved. -/
theorem St.grown (h : St w0 W bp bl bt be T len v path) (hg : W.grownBy w1 v.ownBlock) (hb : Below w0.heap.size w0 w1) (hr : Kd.R (Kd.int .i64) 3 w1 w0.heap.size (fun k => k ≠ bl) v' path') :
    St w0 (w1.setCell ⟨bp, 0, none⟩ v') bp bl bt be T len v' path' := by
  have hn := h.ne
  have kp : w1.heap[bp]? = some (.cells #[v] 31 (0, 0)) := (hg.block _ (lt_of_block h.p) hn.1).trans h.p
  have kl : w1.heap[bl]? = some (.cells #[.int .i64 len] 3 (0, 0)) := (hg.block _ (lt_of_block h.l) hn.2.1).trans h.l
  have kt := (hg.block _ (lt_of_block h.t) hn.2.2.1).trans h.t
  have ke := (hg.block _ (lt_of_block h.e) hn.2.2.2).trans h.e
  refine ⟨hb.setCell h.hp _, one_setCell kp, ?_, ?_, ?_, ?_, h.hp⟩
  · rw [Below.heap_setCell _ _ _ _ (blk_ne kl kp (by decide))]; exact kl
  · rw [Below.heap_setCell _ _ _ _ (blk_ne kt kp (by decide))]; exact kt
  · rw [Below.heap_setCell _ _ _ _ (blk_ne ke kp (by decide))]; exact ke
  · exact Kd.R_set hr kp (by decide) 0 _
theorem St.cp (h : St w0 W bp bl bt be T len v path) : W.cell? ⟨bp, 0, none⟩ = some v := cell_of_one h.p
theorem St.fp (h : St w0 W bp bl bt be T len v path) : W.frozen? ⟨bp, 0, none⟩ = false := free_of_one h.p
theorem St.cl (h : St w0 W bp bl bt be T len v path) : W.cell? ⟨bl, 0, none⟩ = some (.int .i64 len) := cell_of_one h.l
theorem St.ct (h : St w0 W bp bl bt be T len v path) : W.cell? ⟨bt, 0, none⟩ = some T := cell_of_one h.t
theorem St.ce (h : St w0 W bp bl bt be T len v path) : W.cell? ⟨be, 0, none⟩ = some (.func (.func 70) #[] #[.pointer (some ⟨bp, 0, none⟩), .pointer (some ⟨bl, 0, none⟩), .pointer (some ⟨bt, 0, none⟩), .pointer (some ⟨be, 0, none⟩)]) := cell_of_one h.e
end

/-- The first cycle of a length that begins with a path, or nothing. Fuel: how many devices are still to come. -/
def firstOf (f : Int → List Int) : List Int → List Int
  | [] => []
  | d :: ds => match f d with
    | [] => firstOf f ds
    | x :: xs => x :: xs
/-- The numbers from a to n - 1. -/
def upTo (a : Int) (n : Nat) : List Int := (List.range (n - a.toNat)).map fun (i : Nat) => a + (i : Int)
theorem upTo_end (a : Int) (n : Nat) (h : (n : Int) ≤ a) : upTo a n = [] := by
  unfold upTo
  rw [show n - a.toNat = 0 from by omega]
  rfl
theorem upTo_cons (a : Int) (n : Nat) (h0 : 0 ≤ a) (h : a < n) : upTo a n = a :: upTo (a + 1) n := by
  unfold upTo
  rw [show n - a.toNat = (n - (a + 1).toNat) + 1 from by omega, List.range_succ_eq_map, List.map_cons, List.map_map]
  congr 1
  · simp
  · apply List.map_congr_left
    intro i _
    simp only [Function.comp]
    omega
def last (path : List Int) : Int := rd path ((path.length : Int) - 1)
def ext (t : List (List Int)) (len : Nat) : Nat → List Int → List Int
  | 0, path => if 0 < rd (rd_L1 t (last path)) (rd path 0) then path else []
  | f + 1, path => firstOf (fun d => if rd (rd_L1 t (last path)) d = 0 ∨ path.contains d = true then [] else ext t len f (path ++ [d])) (upTo (rd path 0 + 1) t.length)

end Go.Proofs.Ytdljbmgknhbceaa.A
