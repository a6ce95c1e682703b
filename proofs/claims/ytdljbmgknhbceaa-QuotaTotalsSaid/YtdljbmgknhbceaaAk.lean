import Derived.Test.YtdljbmgknhbceaaAi
import Derived.Test.YtdljbmgknhbceaaM2
namespace Go.Proofs.Ytdljbmgknhbceaa.A
open Go.RowKit Go.Proofs.YtdljbmgknhbceaaW.PrintWords Go.Proofs.YtdljbmgknhbceaaW.PrintLast Go.Proofs.YtdljbmgknhbceaaW.PrintMore Go.Proofs.Ytdljbmgknhbceaa.Q
set_option linter.unusedVariables false
set_option linter.unusedSimpArgs false

/-! ### the moves that Settle may make lie in range -/
def okM (n : Nat) (m : S29) : Prop := (0 ≤ m.f0 ∧ m.f0 < n) ∧ (0 ≤ m.f1 ∧ m.f1 < n) ∧ (0 ≤ m.f2 ∧ m.f2 < n)
theorem sTto_range {n : Nat} {has q : List Int} {f o : Int} (hf : 0 ≤ f ∧ f < n) (ho : 0 ≤ o ∧ o < n) {s : List (List Int) × List S29} (h : ∀ m ∈ s.2, okM n m) : ∀ k, k ≤ n → ∀ m ∈ (sTto n has q f o s k).2, okM n m := by
  intro k
  induction k with
  | zero => exact fun _ => h
  | succ k ih =>
    intro hk m hm
    have ih := ih (by omega)
    simp only [sTto, sT] at hm
    split at hm
    · simp only [List.mem_append, List.mem_singleton] at hm
      rcases hm with hm | rfl
      · exact ih m hm
      · exact ⟨hf, ⟨by show (0 : Int) ≤ k; omega, by show (k : Int) < n; omega⟩, ho⟩
    · exact ih m hm
theorem sOto_range {n : Nat} {has q : List Int} {t : List (List Int)} {f : Int} (hf : 0 ≤ f ∧ f < n) {s : List (List Int) × List S29} (h : ∀ m ∈ s.2, okM n m) : ∀ k, k ≤ n → ∀ m ∈ (sOto n has q t f s k).2, okM n m := by
  intro k
  induction k with
  | zero => exact fun _ => h
  | succ k ih =>
    intro hk
    have ih := ih (by omega)
    exact sTto_range hf ⟨by omega, by omega⟩ (s := (upd (sOto n has q t f s k).1 (nodeH f) (nodeP n f (k : Nat)) (get t f (k : Nat)), (sOto n has q t f s k).2)) ih n (Nat.le_refl n)
theorem sFto_range {n : Nat} {has q : List Int} {t : List (List Int)} {s : List (List Int) × Int × List S29} (h : ∀ m ∈ s.2.2, okM n m) : ∀ k, k ≤ n → ∀ m ∈ (sFto n has q t s k).2.2, okM n m := by
  intro k
  induction k with
  | zero => exact fun _ => h
  | succ k ih =>
    intro hk
    have ih := ih (by omega)
    simp only [sFto, sF]
    split
    · exact ih
    · exact sOto_range ⟨by omega, by omega⟩ (s := (upd (sFto n has q t s k).1 0 (nodeH (k : Nat)) (wrap64 (rd has (k : Nat) - rd q (k : Nat))), (sFto n has q t s k).2.2)) ih n (Nat.le_refl n)
theorem flowG_sq {n : Nat} (s t l : Int) : ∀ (f : Nat) (g : List (List Int)) (sent : Int), Sqn n g → Sqn n (flowG s t l f g sent).1 := by
  intro f
  induction f with
  | zero => intro g sent h; exact h
  | succ f ih =>
    intro g sent h
    simp only [flowG]
    repeat' split
    all_goals first | exact h | exact ih _ _ (augG_sq h _ _ _) | exact augG_sq h _ _ _

/-! ### the frame of the last loop -/
structure Mvs (w2 wr : World) (N : Nat) (okg okq ok20 : Nat → Prop) (hg2 : Nat) (A13 : Addr) (c13 : Nat) (v16 v20 : Value) (G : List (List Int)) (ord out : List S29) : Prop where
  sg : Kd.S KT 31 wr w2.heap.size okg (.slice (some A13) N c13) G
  sq : Sqn N G
  rq : Kd.R k29 29 wr w2.heap.size okq v16 ord
  ro : Kd.R k29 29 wr w2.heap.size ok20 v20 out
  be : Below w2.heap.size w2 wr
  hg : hg2 ≤ wr.heap.size
  h2 : w2.heap.size ≤ hg2
  hok : ∀ k, okg k → w2.heap.size ≤ k ∧ k < hg2
  hoq : ∀ k, okq k → ¬ okg k ∧ k < hg2
  ho2 : ∀ k, ok20 k → hg2 ≤ k
/-- The cells of one move. -/
def Bx (w : World) (bm : Nat) (a0 a1 a2 b : Int) : Prop := w.heap[bm]? = some (.cells #[.int .i64 a0, .int .i64 a1, .int .i64 a2, .int .i64 b] 29 (0, 0))
section
variable {w2 wr w1 : World} {N : Nat} {okg okq ok20 : Nat → Prop} {hg2 : Nat} {A13 : Addr} {c13 : Nat} {v16 v20 v : Value} {G G' : List (List Int)} {ord out out' : List S29} {bm : Nat} {a0 a1 a2 b : Int}
theorem Mvs.drew (h : Mvs w2 wr N okg okq ok20 hg2 A13 c13 v16 v20 G ord out) : Mvs w2 wr.drew N okg okq ok20 hg2 A13 c13 v16 v20 G ord out := ⟨Kd.S_drew h.sg, h.sq, Kd.R_drew h.rq, Kd.R_drew h.ro, below_drew h.be, h.hg, h.h2, h.hok, h.hoq, h.ho2⟩
theorem Mvs.drewN (h : Mvs w2 wr N okg okq ok20 hg2 A13 c13 v16 v20 G ord out) (m : Nat) : Mvs w2 (wr.drewN m) N okg okq ok20 hg2 A13 c13 v16 v20 G ord out := ⟨Kd.S_drewN h.sg m, h.sq, Kd.R_drewN h.rq m, Kd.R_drewN h.ro m, pw_below_drewN h.be m, h.hg, h.h2, h.hok, h.hoq, h.ho2⟩
theorem Mvs.alloc (h : Mvs w2 wr N okg okq ok20 hg2 A13 c13 v16 v20 G ord out) (o : Obj) : Mvs w2 (wr.alloc o) N okg okq (fun k => ok20 k ∧ k ≠ wr.heap.size) hg2 A13 c13 v16 v20 G ord out :=
  ⟨Kd.S_alloc h.sg o, h.sq, Kd.R_alloc h.rq o, Kd.R_mono (Kd.R_alloc (Kd.R_bound h.ro) o) (fun k hk => ⟨hk.1, by have := hk.2.2.1; omega⟩), h.be.alloc h.be.size o, by have := h.hg; simp; omega, h.h2, h.hok, h.hoq, fun k hk => h.ho2 k hk.1⟩
theorem Mvs.weak (h : Mvs w2 wr N okg okq ok20 hg2 A13 c13 v16 v20 G ord out) : Mvs w2 wr N okg okq (fun k => hg2 ≤ k) hg2 A13 c13 v16 v20 G ord out := ⟨h.sg, h.sq, h.rq, Kd.R_mono h.ro h.ho2, h.be, h.hg, h.h2, h.hok, h.hoq, fun _ hk => hk⟩
theorem Mvs.at (h : Mvs w2 wr N okg okq ok20 hg2 A13 c13 v16 v20 G ord out) (i j : Int) (i0 : 0 ≤ i) (i1 : i < N) (j0 : 0 ≤ j) (j1 : j < N) :
    ∃ g d, wr.cell? (A13.add i.toNat) = some (.slice (some ⟨g, 0, none⟩) N d) ∧ wr.cell? ⟨g, j.toNat, none⟩ = some (.int .i64 (get G i j)) ∧ wr.frozen? ⟨g, j.toNat, none⟩ = false ∧ g < hg2 ∧
      ∀ x, Mvs w2 (wr.setCell ⟨g, j.toNat, none⟩ (.int .i64 x)) N okg okq ok20 hg2 A13 c13 v16 v20 (upd G i j x) ord out := by
  have hrl := h.sq.2 i i0 i1
  obtain ⟨g, d, s0, s1, s2, s3, ⟨s4, _⟩, s5⟩ := tab_at h.sg i j i0 (by rw [h.sq.1]; exact i1) j0 (by rw [hrl]; exact j1)
  rw [hrl] at s0
  refine ⟨g, d, s0, s1, s2, (h.hok g s4).2, fun x => ⟨(s5 x).1, h.sq.upd _ _ _, ?_, ?_, h.be.setCell s3 _, by simpa [World.setCell] using h.hg, h.h2, h.hok, h.hoq, h.ho2⟩⟩
  · exact Kd.R_far h.rq (fun k hk => by
      have := (h.hoq k hk).1
      show k ≠ g
      intro e
      exact this (e ▸ s4)) _
  · exact Kd.R_far h.ro (fun k hk => by
      have := h.ho2 k hk
      have h1 := (h.hok g s4).2
      show k ≠ g
      omega) _
theorem Mvs.fr (h : Mvs w2 wr N okg okq ok20 hg2 A13 c13 v16 v20 G ord out) (hf : Fr okg wr w1) (hs : Kd.S KT 31 w1 w2.heap.size okg (.slice (some A13) N c13) G') (hq : Sqn N G') : Mvs w2 w1 N okg okq ok20 hg2 A13 c13 v16 v20 G' ord out :=
  ⟨hs, hq, Kd.R_step h.rq (fun k ho hk => hf.block k hk (h.hoq k ho).1), Kd.R_step h.ro (fun k ho hk => hf.block k hk (fun e => by have := (h.hok k e).2; have := h.ho2 k ho; omega)), hf.below h.be h.be.size (fun k hk => (h.hok k hk).1), Nat.le_trans h.hg hf.size, h.h2, h.hok, h.hoq, h.ho2⟩
theorem Mvs.box (h : Mvs w2 wr N okg okq ok20 hg2 A13 c13 v16 v20 G ord out) (hb : hg2 ≤ bm) (hn : ∀ k, ok20 k → k ≠ bm) (j : Nat) (u : Value) : Mvs w2 (wr.setCell ⟨bm, j, none⟩ u) N okg okq ok20 hg2 A13 c13 v16 v20 G ord out :=
  ⟨Kd.S_far h.sg (fun k hk => by have := (h.hok k hk).2; show k ≠ bm; omega) _, h.sq, Kd.R_far h.rq (fun k hk => by have := (h.hoq k hk).2; show k ≠ bm; omega) _, Kd.R_far h.ro (fun k hk => hn k hk) _, h.be.setCell (by have := h.h2; show w2.heap.size ≤ bm; omega) _, by simpa [World.setCell] using h.hg, h.h2, h.hok, h.hoq, h.ho2⟩
theorem Mvs.append (h : Mvs w2 wr N okg okq ok20 hg2 A13 c13 v16 v20 G ord out) (hg : wr.grownBy w1 v20.ownBlock) (hb : Below w2.heap.size w2 w1) (hr : Kd.R k29 29 w1 w2.heap.size ok20 v out') : Mvs w2 w1 N okg okq ok20 hg2 A13 c13 v16 v G ord out' :=
  ⟨Kd.S_grown h.sg hg (fun k hk e => by
      have h1 := h.ho2 k (h.ro.1 k e.symm)
      have := (h.hok k hk).2
      omega), h.sq, Kd.R_grown h.rq hg (fun k hk e => by
      have h1 := h.ho2 k (h.ro.1 k e.symm)
      have := (h.hoq k hk).2
      omega), hr, hb, Nat.le_trans h.hg hg.size, h.h2, h.hok, h.hoq, h.ho2⟩
theorem Bx.drew (h : Bx wr bm a0 a1 a2 b) : Bx wr.drew bm a0 a1 a2 b := h
theorem Bx.cells (h : Bx wr bm a0 a1 a2 b) : wr.cell? ⟨bm, 0, none⟩ = some (.int .i64 a0) ∧ wr.cell? ⟨bm, 1, none⟩ = some (.int .i64 a1) ∧ wr.cell? ⟨bm, 2, none⟩ = some (.int .i64 a2) ∧ wr.cell? ⟨bm, 3, none⟩ = some (.int .i64 b) ∧ wr.frozen? ⟨bm, 3, none⟩ = false := by
  unfold Bx at h
  refine ⟨by simp [World.cell?, h], by simp [World.cell?, h], by simp [World.cell?, h], by simp [World.cell?, h], by simp [World.frozen?, h]⟩
theorem Bx.put (h : Bx wr bm a0 a1 a2 b) (x : Int) : Bx (wr.setCell ⟨bm, 3, none⟩ (.int .i64 x)) bm a0 a1 a2 x := by
  unfold Bx at h ⊢
  rw [Go.heap_setCell_same _ _ _ _ _ _ h]
  rfl
theorem Bx.far (h : Bx wr bm a0 a1 a2 b) {g : Nat} (hg : g ≠ bm) (j : Nat) (u : Value) : Bx (wr.setCell ⟨g, j, none⟩ u) bm a0 a1 a2 b := by
  unfold Bx at h ⊢
  rw [Below.heap_setCell _ _ _ _ (by show bm ≠ g; omega)]
  exact h
theorem Bx.fr (h : Bx wr bm a0 a1 a2 b) (hf : Fr okg wr w1) (hn : ¬ okg bm) : Bx w1 bm a0 a1 a2 b := by
  unfold Bx at h ⊢
  rw [hf.block bm (lt_of_block h) hn]
  exact h
end

end Go.Proofs.Ytdljbmgknhbceaa.A
