import Derived.Test.YtdljbmgknhbceaaA4
namespace Go.Proofs.Ytdljbmgknhbceaa.A
open Go.RowKit Go.Proofs.YtdljbmgknhbceaaW.PrintWords Go.Proofs.YtdljbmgknhbceaaW.PrintLast Go.Proofs.YtdljbmgknhbceaaW.PrintMore Go.Proofs.Ytdljbmgknhbceaa.Q
set_option linter.unusedVariables false
set_option linter.unusedSimpArgs false

/-- What 'extend' leaves. -/
def After (w0 : World) (bp bl bt be : Nat) (T : Value) (len : Int) (path found : List Int) (e : Ending) (W' : World) : Prop :=
  ∃ v', e = .returned (.bool (!found.isEmpty)) ∧ St w0 W' bp bl bt be T len v' (if found.isEmpty = true then path else found)

def Sq (t : List (List Int)) : Prop := ∀ i : Int, 0 ≤ i → i < t.length → (rd_L1 t i).length = t.length
def Ins (t : List (List Int)) (path : List Int) : Prop := ∀ i : Int, 0 ≤ i → i < path.length → 0 ≤ rd path i ∧ rd path i < t.length

set_option maxHeartbeats 1000000 in
set_option maxRecDepth 100000 in
theorem cyc_zero (w0 : World) (A : Option Addr) (c : Nat) (t : List (List Int)) (ht : Kd.C (Kd.slice 3 (Kd.int .i64)) w0 A t.length t) (hq : Sq t) (len : Nat) (bp bl bt be : Nat)
    (path : List Int) (v : Value) (W : World) (hs : St w0 W bp bl bt be (.slice A t.length c) len v path) (hl : path.length = len) (hn : 0 < path.length) (hi : Ins t path) (hb : path.length < 1000) :
    Calls Try.prog 70 #[.pointer (some ⟨bp, 0, none⟩), .pointer (some ⟨bl, 0, none⟩), .pointer (some ⟨bt, 0, none⟩), .pointer (some ⟨be, 0, none⟩)] W (After w0 bp bl bt be (.slice A t.length c) len path (ext t len 0 path)) := by
  obtain ⟨Av, cv, rfl⟩ := Kd.R_slice hs.r
  have hcp := hs.cp
  have hcl := hs.cl
  have hct := hs.ct
  have HS := Aside0.mk hs
  have HT := Aside0.mk (Kd.C_below ht hs.below)
  have hrp := (Kd.R_reads' hs.r).2.2
  obtain ⟨ad, e, hx1⟩ := Kd.at_int hrp ((path.length : Int) - 1) (by omega) (by omega)
  cases e
  obtain ⟨ad', e, hx0⟩ := Kd.at_int hrp 0 (by omega) (by omega)
  cases e
  rw [show (0 : Int).toNat = 0 from rfl, Go.Addr.add_zero'] at hx0
  have L := hi ((path.length : Int) - 1) (by omega) (by omega)
  have F := hi 0 (by omega) (by omega)
  obtain ⟨adt, A1, c1, e, hxt, hl1, hi1⟩ := at_L1 HT.out (last path) L.1 L.2
  cases e
  obtain ⟨adr, e, hxr⟩ := Kd.at_int hi1 (rd path 0) F.1 (by rw [hq (last path) L.1 L.2]; exact F.2)
  cases e
  have hq1 : (rd_L1 t (last path)).length = t.length := hq _ L.1 L.2
  obtain ⟨lst, hlst⟩ : ∃ x, x = rd path ((path.length : Int) - 1) := ⟨_, rfl⟩
  have hlast : last path = lst := hlst.symm
  rw [hlast] at hxt hl1 hi1 hxr hq1
  rw [← hlst] at hx1 L
  rw [show ((path.length : Int) - 1).toNat = path.length - 1 from by omega] at hx1
  obtain ⟨L0, L1⟩ := L
  obtain ⟨F0, F1⟩ := F
  have F2 : rd path 0 < ((rd_L1 t lst).length : Int) := by rw [hq1]; exact F1
  have hf : Aside0 (ext t len 0 path = if 0 < rd (rd_L1 t lst) (rd path 0) then path else []) := ⟨by rw [ext, hlast]⟩
  have k1 : ((path.length : Int) == (len : Int)) = true := beq_iff_eq.2 (by omega)
  have k2 : (path.length == len) = true := beq_iff_eq.2 (by omega)
  have HH := Aside0.mk (And.intro hlst (And.intro hl (And.intro hq1 hlast)))
  have HI := Aside0.mk hi1
  have HR := Aside0.mk hrp
  clear hs ht hq hrp hi hlst hl hq1 hlast hi1
  by_cases hg : 0 < rd (rd_L1 t lst) (rd path 0)
  · have hfin : Aside0 (ext t len 0 path = path) := ⟨by rw [hf.out, if_pos hg]⟩
    have hgb : decide (0 < rd (rd_L1 t lst) (rd path 0)) = true := decide_eq_true hg
    clear hg hf
    go_enter Try.func70, Try.ntmps70
    go_wp2
    repeat (go_quiet (fail); try go_wp2)
    go_ret
    refine ⟨.slice (some ad) path.length cv, ?_, ?_⟩
    · rw [hfin.out]
      cases path with
      | nil => simp at hn
      | cons x xs => rfl
    · rw [hfin.out]
      repeat (first | exact (by simpa using HS.out) | refine St.drewN ?_ _)
  · have hfin : Aside0 (ext t len 0 path = []) := ⟨by rw [hf.out, if_neg hg]⟩
    have hgb : decide (0 < rd (rd_L1 t lst) (rd path 0)) = false := decide_eq_false hg
    clear hg hf
    go_enter Try.func70, Try.ntmps70
    go_wp2
    repeat (go_quiet (fail); try go_wp2)
    go_ret
    refine ⟨.slice (some ad) path.length cv, ?_, ?_⟩
    · rw [hfin.out]
      rfl
    · rw [hfin.out]
      repeat (first | exact (by simpa using HS.out) | refine St.drewN ?_ _)

end Go.Proofs.Ytdljbmgknhbceaa.A
