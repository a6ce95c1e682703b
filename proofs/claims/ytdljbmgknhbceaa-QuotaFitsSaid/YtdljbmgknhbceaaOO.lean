import Derived.Test.YtdljbmgknhbceaaBa
import Derived.Deep.Matrix
import Derived.WalkKit
import Derived.ProofKit
import Derived.OpenShut
import Derived.Lib.SmallJoins
namespace Go.Proofs.Ytdljbmgknhbceaa.O
open Go.RowKit Go.Proofs.YtdljbmgknhbceaaW.PrintWords Go.Proofs.YtdljbmgknhbceaaW.PrintLast Go.Proofs.YtdljbmgknhbceaaW.PrintMore Go.Proofs.Ytdljbmgknhbceaa.Q
set_option linter.unusedVariables false

/-! ### the arguments of the laws, opened -/
def IsInts (W : World) (a : Option Addr) (len cap : Nat) : Prop := ∃ l : List Int, len = l.length ∧ Kd.C (Kd.int .i64) W a l.length l ∧ l.length ≤ cap ∧ ∀ x ∈ l, (Lit.int .i64 x).wf = true
def IsTab (W : World) (a : Option Addr) (len cap : Nat) : Prop := ∃ l : List (List Int), len = l.length ∧ Kd.C A.KT W a l.length l ∧ l.length ≤ cap ∧ ∀ row ∈ l, ∀ x ∈ row, (Lit.int .i64 x).wf = true

theorem ints_of {W : World} {a : Option Addr} {len cap : Nat} {zs : List Int} (hl : len ≤ cap) (hm : cap ≤ maxLen) (hz : zs.length = cap) (hw : ∀ n ∈ zs, (Lit.int .i64 n).wf = true) (h : a = none → cap = 0)
    (hc : ∀ a', a = some a' → ∀ c, c < cap → W.cell? (a'.add c) = some (.int .i64 (zs.getD c 0))) : (zs.take len).length = len ∧ Kd.C (Kd.int .i64) W a len (zs.take len) ∧ ∀ x ∈ zs.take len, (Lit.int .i64 x).wf = true := by
  have hlen : (zs.take len).length = len := by rw [List.length_take]; omega
  refine ⟨hlen, ⟨hlen, by have : maxLen ≤ 9223372036854775807 := by decide
                          omega, fun hn => ?_⟩, fun x hx => hw x (List.mem_of_mem_take hx)⟩
  cases a with
  | none => have := h rfl; omega
  | some ad =>
    refine ⟨ad, rfl, fun j p hj => ⟨[.int .i64 p], rfl, rfl, fun i u hu => ?_⟩⟩
    cases i with
    | succ i => simp at hu
    | zero =>
      simp only [List.getElem?_cons_zero, Option.some.injEq] at hu
      subst hu
      have hj2 : j < len := by
        have := (List.getElem?_eq_some_iff.1 hj).1
        omega
      have := hc ad rfl j (by omega)
      rw [List.getElem?_take, if_pos hj2] at hj
      rw [List.getD_eq_getElem?_getD, hj] at this
      simpa [Kd.int, Kd.scalar] using this

theorem isInts {H : Type} {enc : TypeId × Value → H} {W : World} {fuel : Nat} {a : Option Addr} {len cap : Nat} {held : Bool} {x : DataW H × List MemPlace} (hf : DataW.trod enc Try.prog W 0 (fun _ => true) held fuel 31 (Value.slice a len cap).cells.toList = some x) : IsInts W a len cap := by
  rcases Go.ChangeShapes.open_ints Try.underlying31 Try.underlying3 (by kernel_rfl) hf with ⟨hcs, _⟩ | ⟨y, l, c, zs, hcs, _, hl, hm, hz, _, hcell, hwz⟩
  · simp [Value.cells] at hcs
    obtain ⟨rfl, rfl, rfl⟩ := hcs
    exact ⟨[], rfl, ⟨rfl, by simp, by simp⟩, Nat.le_refl _, by simp⟩
  · simp [Value.cells] at hcs
    obtain ⟨rfl, rfl, rfl⟩ := hcs
    simp only [if_true] at hz
    obtain ⟨h1, h2, h3⟩ := ints_of (W := W) (a := some y) hl hm hz hwz (fun h => by cases h) (fun a' e c' hc' => by cases e; exact hcell c' (by omega))
    exact ⟨zs.take len, h1.symm, by rw [h1]; exact h2, by rw [h1]; exact hl, h3⟩

theorem isTab {H : Type} {enc : TypeId × Value → H} {W : World} {fuel : Nat} {a : Option Addr} {len cap : Nat} {held : Bool} {x : DataW H × List MemPlace} (hf : DataW.trod enc Try.prog W 0 (fun _ => true) held fuel 22 (Value.slice a len cap).cells.toList = some x) : IsTab W a len cap := by
  rcases Go.Deep.open_int_rows Try.underlying22 Try.underlying31 Try.underlying3 (by kernel_rfl) (by kernel_rfl) hf with ⟨hcs, _⟩ | ⟨y, l, c, A, L, C, Z, hcs, _, hl, hm, _, hrows⟩
  · simp [Value.cells] at hcs
    obtain ⟨rfl, rfl, rfl⟩ := hcs
    exact ⟨[], rfl, ⟨rfl, by simp, by simp⟩, Nat.le_refl _, by simp⟩
  · simp [Value.cells] at hcs
    obtain ⟨rfl, rfl, rfl⟩ := hcs
    have each : ∀ r, r < cap → ((Z r).take (L r)).length = L r ∧ Kd.C (Kd.int .i64) W (A r) (L r) ((Z r).take (L r)) ∧ ∀ x ∈ (Z r).take (L r), (Lit.int .i64 x).wf = true := fun r hr => by
      obtain ⟨_, r1, r2, r3, r4, r5, r6⟩ := hrows r hr
      exact ints_of r1 r2 r3 r4 r5 (fun a' e c hc => (r6 a' e).2 c hc)
    refine ⟨(List.range len).map fun r => (Z r).take (L r), by simp, ⟨rfl, ?_, fun hn => ⟨y, rfl, fun j p hj => ?_⟩⟩, by simpa using hl, fun row hrow x hx => ?_⟩
    · have : maxLen ≤ 9223372036854775807 := by decide
      simp
      omega
    · rw [List.getElem?_map] at hj
      simp only [Option.map_eq_some_iff] at hj
      obtain ⟨r, hr, rfl⟩ := hj
      obtain ⟨hr1, hr2⟩ := List.getElem?_eq_some_iff.1 hr
      simp only [List.getElem_range] at hr2
      subst hr2
      simp only [List.length_range] at hr1
      obtain ⟨e1, e2, e3⟩ := each j (by omega)
      obtain ⟨c1, r1, _⟩ := hrows j (by omega)
      refine ⟨[.slice (A j) ((Z j).take (L j)).length (C j)], rfl, ⟨A j, C j, rfl, by rw [e1]; exact r1, by rw [e1]; exact e2⟩, fun i u hu => ?_⟩
      cases i with
      | succ i => simp at hu
      | zero =>
        simp only [List.getElem?_cons_zero, Option.some.injEq] at hu
        subst hu
        rw [e1]
        simpa [Go.Proofs.Ytdljbmgknhbceaa.A.KT, Kd.slice] using c1
    · simp only [List.mem_map, List.mem_range] at hrow
      obtain ⟨r, hr, rfl⟩ := hrow
      exact (each r (by omega)).2.2 x hx

end Go.Proofs.Ytdljbmgknhbceaa.O

namespace Go.Proofs.Ytdljbmgknhbceaa.O
open Go.RowKit Go.Proofs.YtdljbmgknhbceaaW.PrintWords Go.Proofs.YtdljbmgknhbceaaW.PrintLast Go.Proofs.YtdljbmgknhbceaaW.PrintMore Go.Proofs.Ytdljbmgknhbceaa.Q
set_option linter.unusedVariables false

/-! ### moves as arguments -/
theorem four_ints {H : Type} {enc : TypeId × Value → H} {W : World} {sp : Nat → Bool} {fuel : Nat} {held : Bool} {cs : List Value} {x : DataW H × List MemPlace} (h : DataW.trod enc Try.prog W 0 sp held fuel 24 cs = some x) (hl : cs.length = 4) : ∃ s : S24, cs = [.int .i64 s.f0, .int .i64 s.f1, .int .i64 s.f2, .int .i64 s.f3] := by
  obtain ⟨y0, y1, y2, y3, n, _, _, h0, h1, h2, h3⟩ := Go.Joins.trod_struct4 Try.underlying24 h
  match cs, hl with
  | [c0, c1, c2, c3], _ =>
    obtain ⟨a0, e0, _, _⟩ := DataW.trod_int Try.underlying3 h0
    obtain ⟨a1, e1, _, _⟩ := DataW.trod_int Try.underlying3 h1
    obtain ⟨a2, e2, _, _⟩ := DataW.trod_int Try.underlying3 h2
    obtain ⟨a3, e3, _, _⟩ := DataW.trod_int Try.underlying3 h3
    have k3 : Try.prog.cellsOf 3 = 1 := by kernel_rfl
    simp only [k3] at e0 e1 e2 e3
    refine ⟨⟨a0, a1, a2, a3⟩, ?_⟩
    have e0' : c0 = .int .i64 a0 := by simpa using e0
    have e1' : c1 = .int .i64 a1 := by simpa using e1
    have e2' : c2 = .int .i64 a2 := by simpa using e2
    have e3' : c3 = .int .i64 a3 := by simpa using e3
    rw [e0', e1', e2', e3']
theorem isMoves {H : Type} {enc : TypeId × Value → H} {W : World} {fuel : Nat} {a : Option Addr} {len cap : Nat} {held : Bool} {x : DataW H × List MemPlace} (hf : DataW.trod enc Try.prog W 0 (fun _ => true) held fuel 48 (Value.slice a len cap).cells.toList = some x) : ∃ l : List S24, len = l.length ∧ Kd.C k24 W a l.length l ∧ l.length ≤ cap := by
  have c24 : Try.prog.cellsOf 24 = 4 := by kernel_rfl
  rcases Go.Deep.open_slice Try.underlying48 hf with ⟨hcs, _⟩ | ⟨y, l, c, m, n, D, Pl, hcs, _, hl, hm, hmm, _, hrows⟩
  · simp [Value.cells] at hcs
    obtain ⟨rfl, rfl, rfl⟩ := hcs
    exact ⟨[], rfl, ⟨rfl, by simp, by simp⟩, Nat.le_refl _⟩
  · simp [Value.cells] at hcs
    obtain ⟨rfl, rfl, rfl⟩ := hcs
    simp only [if_true] at hmm
    subst hmm
    have each : ∀ i, i < m → ∃ s : S24, W.cells? 0 (y.add (i * 4)) 4 = some [.int .i64 s.f0, .int .i64 s.f1, .int .i64 s.f2, .int .i64 s.f3] := fun i hi => by
      obtain ⟨cs', h1, h2⟩ := hrows i hi
      rw [c24] at h1
      obtain ⟨s, rfl⟩ := four_ints h2 (World.cells?_some h1).2.1
      exact ⟨s, h1⟩
    haveI : Inhabited S24 := ⟨z24⟩
    obtain ⟨S, hS⟩ := Go.Deep.choose_lt each
    refine ⟨(List.range len).map S, by simp, ⟨by simp, ?_, fun hn => ⟨y, rfl, fun j p hj => ?_⟩⟩, by simpa using hl⟩
    · have : maxLen ≤ 9223372036854775807 := by decide
      simp
      omega
    · rw [List.getElem?_map] at hj
      simp only [Option.map_eq_some_iff] at hj
      obtain ⟨r, hr, rfl⟩ := hj
      obtain ⟨hr1, hr2⟩ := List.getElem?_eq_some_iff.1 hr
      simp only [List.getElem_range] at hr2
      subst hr2
      simp only [List.length_range] at hr1
      have hj4 := (World.cells?_some (hS j (by omega))).2.2
      refine ⟨[.int .i64 (S j).f0, .int .i64 (S j).f1, .int .i64 (S j).f2, .int .i64 (S j).f3], rfl, k24_mk W (S j), fun i u hu => ?_⟩
      have hi : i < 4 := (List.getElem?_eq_some_iff.1 hu).1
      have := hj4 i hi
      rw [hu, Go.Deep.add_add] at this
      exact this
theorem isMove {H : Type} {enc : TypeId × Value → H} {W : World} {v : Value} {d : DataW H} {p : List MemPlace} (hv : Value.okWide Try.prog W .any 0 24 v) (h : DataW.Trod enc Try.prog W 0 (fun _ => true) true 24 v d p) : ∃ s : S24, v = .agg #[.int .i64 s.f0, .int .i64 s.f1, .int .i64 s.f2, .int .i64 s.f3] := by
  obtain ⟨cs, rfl, hs⟩ := Go.WideShapes.okWide_struct Try.underlying24 hv
  have c24 : Try.prog.cellsOf 24 = 4 := by kernel_rfl
  rw [c24] at hs
  obtain ⟨fuel, hf⟩ := h
  obtain ⟨s, e⟩ := four_ints (cs := cs.toList) (by simpa [Value.cells] using hf) (by simpa using hs)
  refine ⟨s, ?_⟩
  have : cs = #[.int .i64 s.f0, .int .i64 s.f1, .int .i64 s.f2, .int .i64 s.f3] := by
    rw [← Array.toList_inj, e]
  rw [this]
end Go.Proofs.Ytdljbmgknhbceaa.O
