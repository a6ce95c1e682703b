import Derived.Test.YtdljbmgknhbceaaAh
namespace Go.Proofs.Ytdljbmgknhbceaa.A
open Go.RowKit Go.Proofs.YtdljbmgknhbceaaW.PrintWords Go.Proofs.YtdljbmgknhbceaaW.PrintLast Go.Proofs.YtdljbmgknhbceaaW.PrintMore Go.Proofs.Ytdljbmgknhbceaa.Q
set_option linter.unusedVariables false
set_option linter.unusedSimpArgs false

/-- A new row laid into a table of the call's own. -/
theorem tab_row {W0 W1 : World} {base : Nat} {ok : Nat → Prop} {A : Option Addr} {n cap : Nat} {t : List (List Int)} {v : Value} {row : List Int} (h : Kd.S KT 31 W0 base ok (.slice A n cap) t) (hb : Below W0.heap.size W0 W1) (hr : Kd.R (Kd.int .i64) 3 W1 W0.heap.size (fun _ => True) v row)
    (hbase : base ≤ W0.heap.size) (hok : ∀ k, W0.heap.size ≤ k → ok k) (i : Int) (i0 : 0 ≤ i) (i1 : i < t.length) :
    ∃ g x, A = some ⟨g, 0, none⟩ ∧ W1.cell? ⟨g, i.toNat, none⟩ = some x ∧ W1.frozen? ⟨g, i.toNat, none⟩ = false ∧ base ≤ g ∧ g < W0.heap.size ∧ Kd.S KT 31 (W1.setCell ⟨g, i.toNat, none⟩ v) base ok (.slice A n cap) (t.set i.toNat row) := by
  obtain ⟨hn, _, hC⟩ := Kd.S_reads' h
  obtain ⟨ad, _, _, e, _⟩ := at_L1 hC i i0 (by omega)
  subst e
  obtain ⟨inner, ho⟩ := Kd.S_own h
  rcases ho.2 with ⟨h0, _⟩ | ⟨g, cap', cur, he, hbg, hh, _⟩
  · cases h0
  · injection he with he1 he2 he3
    injection he1 with he1
    subst he1
    have hgl : g < W0.heap.size := lt_of_block hh
    have hS := Kd.S_mono (Kd.S_bound h) (ok' := fun k => ok k ∧ ¬ (W0.heap.size ≤ k)) (fun k hk => ⟨hk.1, by omega⟩)
    obtain ⟨oki, c, hcl, hM, hcc, hoki, hH⟩ := Kd.S_lend hS ([] : List Int) i i0 (by omega)
    have hH1 := Kd.H_below hH hb
    obtain ⟨hcells, hfr⟩ := Kd.H_at hH1 i0 (by omega)
    obtain ⟨v0, rfl, _⟩ := hM
    have hMn : KT.M W1 base (fun k => W0.heap.size ≤ k) row (([v0] : List Value).take 0 ++ [v] ++ ([v0] : List Value).drop (0 + [v].length)) := by
      refine ⟨v, rfl, ?_⟩
      exact Kd.R_lower (Kd.R_mono (Kd.R_bound hr) (fun k hk => hk.2.1)) hbase
    obtain ⟨s1, _⟩ := Kd.S_seg (okg := fun k => W0.heap.size ≤ k) (seg := [v]) (j := 0) hH1 i0 (by omega) (by simp [KT, Kd.slice]) hMn (fun k hk => .inr hk) (fun k hk => ⟨hok k hk, by omega⟩)
    have e0 : i.toNat * KT.sz + 0 = i.toNat := by simp [KT, Kd.slice]
    refine ⟨g, v0, rfl, ?_, ?_, hbg, hgl, ?_⟩
    · have := hcells 0 _ rfl
      rwa [e0] at this
    · have := hfr 0
      rwa [e0] at this
    · rw [e0] at s1
      exact s1

theorem node47 (d x : Int) (w : World) (hx : x = 2 + d) (d0 : 0 ≤ d) (d1 : d < 1000) : Calls Try.prog 47 #[.int .i64 d] w fun e w' => e = .returned (.int .i64 x) ∧ w' = w := by
  subst hx
  go_enter Try.func47, Try.ntmps47
  go_wp2
  go_ret
  exact ⟨rfl, rfl⟩
theorem node48 (d x : Int) (n b : Nat) (w : World) (hb : w.cell? ⟨b, 0, none⟩ = some (.int .i64 n)) (hx : x = 2 + n + d) (hn : n ≤ 1000) (d0 : 0 ≤ d) (d1 : d < n) : Calls Try.prog 48 #[.int .i64 d, .pointer (some ⟨b, 0, none⟩)] w fun e w' => e = .returned (.int .i64 x) ∧ w' = w := by
  subst hx
  go_enter Try.func48, Try.ntmps48
  go_wp2
  go_ret
  exact ⟨rfl, rfl⟩
theorem node49 (f o x : Int) (n b : Nat) (w : World) (hb : w.cell? ⟨b, 0, none⟩ = some (.int .i64 n)) (hx : x = 2 + 2 * n + f * n + o) (hn : n ≤ 1000) (f0 : 0 ≤ f) (f1 : f < n) (o0 : 0 ≤ o) (o1 : o < n) : Calls Try.prog 49 #[.int .i64 f, .int .i64 o, .pointer (some ⟨b, 0, none⟩)] w fun e w' => e = .returned (.int .i64 x) ∧ w' = w := by
  subst hx
  have h1 : 0 ≤ f * (n : Int) := Int.mul_nonneg f0 (by omega)
  have h2 : f * (n : Int) ≤ 1000000 := Int.le_trans (Int.mul_le_mul (show f ≤ 1000 by omega) (show (n : Int) ≤ 1000 by omega) (by omega) (by omega)) (by omega)
  go_enter Try.func49, Try.ntmps49
  go_wp2
  go_ret
  exact ⟨rfl, rfl⟩

end Go.Proofs.Ytdljbmgknhbceaa.A
