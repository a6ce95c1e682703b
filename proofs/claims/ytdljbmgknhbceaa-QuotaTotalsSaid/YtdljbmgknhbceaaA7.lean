import Derived.Test.YtdljbmgknhbceaaA6
import Derived.Laws.EntriesVeiled
namespace Go.Proofs.Ytdljbmgknhbceaa.A
open Go.RowKit Go.Proofs.YtdljbmgknhbceaaW.PrintWords Go.Proofs.YtdljbmgknhbceaaW.PrintLast Go.Proofs.YtdljbmgknhbceaaW.PrintMore Go.Proofs.Ytdljbmgknhbceaa.Q
set_option linter.unusedVariables false
set_option linter.unusedSimpArgs false

section
variable {w0 W w1 : World} {bp bl bt be : Nat} {T v v' : Value} {len : Int} {path path' : List Int}
theorem St.fresh (h : St w0 W bp bl bt be T len v path) (hg : W.grownBy w1 none) (hb : Below w0.heap.size w0 w1) (hr : Kd.R (Kd.int .i64) 3 w1 w0.heap.size (fun k => k ≠ bl) v' path') :
    St w0 (w1.setCell ⟨bp, 0, none⟩ v') bp bl bt be T len v' path' := by
  have kp : w1.heap[bp]? = some (.cells #[v] 31 (0, 0)) := (hg.block _ (lt_of_block h.p) (by simp)).trans h.p
  have kl : w1.heap[bl]? = some (.cells #[.int .i64 len] 3 (0, 0)) := (hg.block _ (lt_of_block h.l) (by simp)).trans h.l
  have kt := (hg.block _ (lt_of_block h.t) (by simp)).trans h.t
  have ke := (hg.block _ (lt_of_block h.e) (by simp)).trans h.e
  refine ⟨hb.setCell h.hp _, one_setCell kp, ?_, ?_, ?_, ?_, h.hp⟩
  · rw [Below.heap_setCell _ _ _ _ (blk_ne kl kp (by decide))]; exact kl
  · rw [Below.heap_setCell _ _ _ _ (blk_ne kt kp (by decide))]; exact kt
  · rw [Below.heap_setCell _ _ _ _ (blk_ne ke kp (by decide))]; exact ke
  · exact Kd.R_set hr kp (by decide) 0 _
theorem St.mid' (h : St w0 W bp bl bt be T len v path) (hg : W.grownBy w1 none) :
    w1.frozen? ⟨bp, 0, none⟩ = false ∧ w1.cell? ⟨bp, 0, none⟩ = some v ∧ w1.cell? ⟨be, 0, none⟩ = some (.func (.func 70) #[] #[.pointer (some ⟨bp, 0, none⟩), .pointer (some ⟨bl, 0, none⟩), .pointer (some ⟨bt, 0, none⟩), .pointer (some ⟨be, 0, none⟩)]) ∧ be ≠ bp := by
  have kp : w1.heap[bp]? = some (.cells #[v] 31 (0, 0)) := (hg.block _ (lt_of_block h.p) (by simp)).trans h.p
  have ke := (hg.block _ (lt_of_block h.e) (by simp)).trans h.e
  exact ⟨free_of_one kp, cell_of_one kp, cell_of_one ke, blk_ne ke kp (by decide)⟩
end

def cycleOf (t : List (List Int)) (len : Nat) : List Int := firstOf (fun d => ext t len (len - 1) [d]) (upTo 0 t.length)

theorem heap_at {w : World} (o : Obj) {k : Nat} (h : k = w.heap.size) : (w.alloc o).heap[k]? = some o := by
  subst h
  show (w.heap.push o)[w.heap.size]? = some o
  simp
theorem heap_old {w : World} (o : Obj) {k : Nat} (h : k < w.heap.size) : (w.alloc o).heap[k]? = w.heap[k]? := Below.heap_alloc w o k h

theorem St.init (w : World) (T : Value) (len : Int) :
    St w ((((w.alloc (.cells #[T] 22)).alloc (.cells #[.int .i64 len] 3)).alloc (.cells #[.slice none 0 0] 31)).alloc (.cells #[.func (.func 70) #[] #[.pointer (some ⟨w.heap.size + 1 + 1, 0, none⟩), .pointer (some ⟨w.heap.size + 1, 0, none⟩), .pointer (some ⟨w.heap.size, 0, none⟩), .pointer (some ⟨w.heap.size + 1 + 1 + 1, 0, none⟩)]] 25)) (w.heap.size + 1 + 1) (w.heap.size + 1) w.heap.size (w.heap.size + 1 + 1 + 1) T len (.slice none 0 0) [] := by
  have s1 : ∀ o, (w.alloc o).heap.size = w.heap.size + 1 := fun o => by simp
  have s2 : ∀ o o', ((w.alloc o).alloc o').heap.size = w.heap.size + 1 + 1 := fun o o' => by simp
  have s3 : ∀ o o' o'', (((w.alloc o).alloc o').alloc o'').heap.size = w.heap.size + 1 + 1 + 1 := fun o o' o'' => by simp
  refine ⟨?_, ?_, ?_, ?_, heap_at _ (by rw [s3]), Kd.R_nil _ _ _ _ _, by omega⟩
  · exact ((((Below.refl _ _).alloc (by omega) _).alloc (by rw [s1]; omega) _).alloc (by rw [s2]; omega) _).alloc (by rw [s3]; omega) _
  · rw [heap_old _ (by rw [s3]; omega)]; exact heap_at _ (by rw [s2])
  · rw [heap_old _ (by rw [s3]; omega), heap_old _ (by rw [s2]; omega)]; exact heap_at _ (by rw [s1])
  · rw [heap_old _ (by rw [s3]; omega), heap_old _ (by rw [s2]; omega), heap_old _ (by rw [s1]; omega)]; exact heap_at _ rfl

set_option maxHeartbeats 2000000 in
set_option maxRecDepth 100000 in
theorem cycle_any (A : Option Addr) (c : Nat) (t : List (List Int)) (w : World) (ht : Kd.C (Kd.slice 3 (Kd.int .i64)) w A t.length t) (hq : Sq t) (hn100 : t.length ≤ 1000) (len : Nat) (hlen : len < 1000) (hlen1 : 1 ≤ len) :
    Calls Try.prog 54 #[.slice A t.length c, .int .i64 len] w fun e w' => ∃ v : Value, e = .returned v ∧ Kd.R (Kd.int .i64) 3 w' w.heap.size (fun _ => True) v (cycleOf t len) ∧ (cycleOf t len = [] → v = .slice none 0 0) ∧ Below w.heap.size w w' := by
  have HT := Aside0.mk ht
  have HQ := Aside0.mk hq
  have HC := Aside0.mk (cyc_any w A c t ht hq hn100 len hlen (w.heap.size + 1 + 1) (w.heap.size + 1) w.heap.size (w.heap.size + 1 + 1 + 1))
  have HI := Aside0.mk (St.init w (.slice A t.length c) len)
  have hct := HI.out.ct
  clear ht hq
  go_enter Try.func54, Try.ntmps54
  go_wp2_with fail
  go_loopw [11] (fun d wr => ∃ (k : Nat) (v' : Value) (path : List Int), d = .int .i64 k ∧ Aside0 (k ≤ t.length) ∧ Aside0 (cycleOf t len = firstOf (fun d => ext t len (len - 1) [d]) (upTo k t.length)) ∧ Aside0 (St w wr (w.heap.size + 1 + 1) (w.heap.size + 1) w.heap.size (w.heap.size + 1 + 1 + 1) (.slice A t.length c) len v' path)) (fun d _ => t.length - (intOf d).toNat)
  case atStart => exact ⟨0, _, [], rfl, ⟨by omega⟩, ⟨rfl⟩, HI⟩
  case round =>
    clear HI hct
    obtain ⟨k, v', path, rfl, hk, hE, hS⟩ := hrel
    by_cases hlt : k < t.length
    · have hup := Aside0.mk (upTo_cons (k : Int) t.length (by omega) (by omega))
      obtain ⟨r, hr⟩ : ∃ r, r = ext t len (len - 1) [(k : Int)] := ⟨_, rfl⟩
      have HR := Aside0.mk hr
      have hbl : Aside0 (w.heap.size + 1 < wr.heap.size) := ⟨lt_of_block hS.out.l⟩
      have hins : Aside0 (Ins t [(k : Int)]) := ⟨by
        intro i i0 i1
        obtain rfl : i = 0 := by simp at i1; omega
        show 0 ≤ (k : Int) ∧ (k : Int) < t.length
        omega⟩
      clear hr
      cases r with
      | nil =>
        go_wp2_with (first
          | ((with_reducible refine gate_dst (N := 15) rfl ?_); refine Kd.R_lit (Kd.int .i64) (w0 := w) w.heap.size 3 ?hg (N := 15) ?hd (xs := [(k : Int)]) (inner := [.int .i64 (k : Int)]) (ok := fun q => q ≠ w.heap.size + 1) (okp := fun _ => False) ?hr ?hp (fun _ hk => hk.elim) ?hf hS.out.below hS.out.below.size (by simp) ?_; (case hd => rfl); (case hg => rfl); (case hr => first | (go_simp; done) | (go_simp; rfl)); (case hp => exact (Reps.one (show Kd.M (Kd.int .i64) _ _ _ (k : Int) [.int .i64 (k : Int)] from rfl) (Reps.none _ _))); (case hf => exact (by have := hbl.out; simp; omega)); intro v1 w1 ho hb hg _; obtain ⟨Ao, co, eo⟩ := Kd.R_slice ho; subst eo; have hm := St.mid' hS.out hg; obtain ⟨m1, m2, m3, m4⟩ := hm; have hS1 := Aside0.mk (St.fresh hS.out hg hb ho); clear ho hb hg)
          | (go_at_call 70; refine (HC.out (len - 1) [(k : Int)] _ _ hS1.out (by simp; omega) (by simp) hins.out).mono ?_; rw [← HR.out]; rintro e W2 ⟨v2, rfl, hS2⟩; replace hS2 : St w W2 (w.heap.size + 1 + 1) (w.heap.size + 1) w.heap.size (w.heap.size + 1 + 1 + 1) (.slice A t.length c) len v2 [(k : Int)] := hS2; replace hS2 := Aside0.mk hS2; clear hS1 m1 m2 m3 m4))
        go_roundw
        case rel => exact ⟨k + 1, _, _, by go_num, ⟨by omega⟩, ⟨by rw [hE.out, hup.out, firstOf_no _ _ _ HR.out.symm]; rfl⟩, hS2⟩
        case measure => simp [intOf]; omega
      | cons y ys =>
        go_wp2_with (first
          | ((with_reducible refine gate_dst (N := 15) rfl ?_); refine Kd.R_lit (Kd.int .i64) (w0 := w) w.heap.size 3 ?hg (N := 15) ?hd (xs := [(k : Int)]) (inner := [.int .i64 (k : Int)]) (ok := fun q => q ≠ w.heap.size + 1) (okp := fun _ => False) ?hr ?hp (fun _ hk => hk.elim) ?hf hS.out.below hS.out.below.size (by simp) ?_; (case hd => rfl); (case hg => rfl); (case hr => first | (go_simp; done) | (go_simp; rfl)); (case hp => exact (Reps.one (show Kd.M (Kd.int .i64) _ _ _ (k : Int) [.int .i64 (k : Int)] from rfl) (Reps.none _ _))); (case hf => exact (by have := hbl.out; simp; omega)); intro v1 w1 ho hb hg _; obtain ⟨Ao, co, eo⟩ := Kd.R_slice ho; subst eo; have hm := St.mid' hS.out hg; obtain ⟨m1, m2, m3, m4⟩ := hm; have hS1 := Aside0.mk (St.fresh hS.out hg hb ho); clear ho hb hg)
          | (go_at_call 70; refine (HC.out (len - 1) [(k : Int)] _ _ hS1.out (by simp; omega) (by simp) hins.out).mono ?_; rw [← HR.out]; rintro e W2 ⟨v2, rfl, hS2⟩; replace hS2 : St w W2 (w.heap.size + 1 + 1) (w.heap.size + 1) w.heap.size (w.heap.size + 1 + 1 + 1) (.slice A t.length c) len v2 (y :: ys) := hS2; have hcp2 := hS2.cp; replace hS2 := Aside0.mk hS2; clear hS1 m1 m2 m3 m4))
        go_ret
        have hfin : cycleOf t len = y :: ys := by rw [hE.out, hup.out, firstOf_yes _ _ _ _ _ HR.out.symm]
        exact ⟨_, rfl, by rw [hfin]; exact Kd.R_mono hS2.out.r (fun _ _ => trivial), by rw [hfin]; simp, hS2.out.below⟩
    · have hnil : Aside0 (cycleOf t len = []) := ⟨by rw [hE.out, upTo_end _ _ (by omega)]; rfl⟩
      go_wp2
      go_ret
      exact ⟨_, rfl, by rw [hnil.out]; exact Kd.R_nil _ _ _ _ _, fun _ => rfl, hS.out.below⟩
end Go.Proofs.Ytdljbmgknhbceaa.A
