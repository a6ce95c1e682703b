import Derived.Test.YtdljbmgknhbceaaBa
import Derived.Laws.EntriesVeiled
namespace Go.Proofs.Ytdljbmgknhbceaa.A
open Go.RowKit Go.Proofs.YtdljbmgknhbceaaW.PrintWords Go.Proofs.YtdljbmgknhbceaaW.PrintLast Go.Proofs.YtdljbmgknhbceaaW.PrintMore Go.Proofs.Ytdljbmgknhbceaa.Q
set_option linter.unusedVariables false
set_option linter.unusedSimpArgs false

/-- What 'extend' leaves. -/
def After (w0 : World) (bp bl bt be : Nat) (T : Value) (len : Int) (path found : List Int) (e : Ending) (W' : World) : Prop :=
  ∃ v', e = .returned (.bool (!found.isEmpty)) ∧ St w0 W' bp bl bt be T len v' (if found.isEmpty = true then path else found)

def Sq (t : List (List Int)) : Prop := ∀ i : Int, 0 ≤ i → i < t.length → (rd_L1 t i).length = t.length
def Ins (t : List (List Int)) (path : List Int) : Prop := ∀ i : Int, 0 ≤ i → i < path.length → 0 ≤ rd path i ∧ rd path i < t.length

set_option maxHeartbeats 1000000 in
set_option maxRecDepth 100000 in
theorem cyc_zero (w0 : World) (A : Option Addr) (c : Nat) (t : List (List Int)) (ht : Kd.C (Kd.slice 3 (Kd.int .i64)) w0 A t.length t) (hq : Sq t) (len : Nat) (bp bl bt be : Nat)
    (path : List Int) (v : Value) (W : World) (hs : St w0 W bp bl bt be (.slice A t.length c) len v path) (hl : path.length = len) (hn : 0 < path.length) (hi : Ins t path) (hb : path.length < 1000) :
    Calls Try.prog 70 #[.pointer (some ⟨bp, 0, none⟩), .pointer (some ⟨bl, 0, none⟩), .pointer (some ⟨bt, 0, none⟩), .pointer (some ⟨be, 0, none⟩)] W (After w0 bp bl bt be (.slice A t.length c) len path (ext t len 0 path)) := by
  obtain ⟨Av, cv, rfl⟩ := Kd.R_slice hs.r
  have hcp := hs.cp
  have hcl := hs.cl
  have hct := hs.ct
  have HS := Aside0.mk hs
  have HT := Aside0.mk (Kd.C_below ht hs.below)
  have hrp := (Kd.R_reads' hs.r).2.2
  obtain ⟨ad, e, hx1⟩ := Kd.at_int hrp ((path.length : Int) - 1) (by omega) (by omega)
  cases e
  obtain ⟨ad', e, hx0⟩ := Kd.at_int hrp 0 (by omega) (by omega)
  cases e
  rw [show (0 : Int).toNat = 0 from rfl, Go.Addr.add_zero'] at hx0
  have L := hi ((path.length : Int) - 1) (by omega) (by omega)
  have F := hi 0 (by omega) (by omega)
  obtain ⟨adt, A1, c1, e, hxt, hl1, hi1⟩ := at_L1 HT.out (last path) L.1 L.2
  cases e
  obtain ⟨adr, e, hxr⟩ := Kd.at_int hi1 (rd path 0) F.1 (by rw [hq (last path) L.1 L.2]; exact F.2)
  cases e
  have hq1 : (rd_L1 t (last path)).length = t.length := hq _ L.1 L.2
  obtain ⟨lst, hlst⟩ : ∃ x, x = rd path ((path.length : Int) - 1) := ⟨_, rfl⟩
  have hlast : last path = lst := hlst.symm
  rw [hlast] at hxt hl1 hi1 hxr hq1
  rw [← hlst] at hx1 L
  rw [show ((path.length : Int) - 1).toNat = path.length - 1 from by omega] at hx1
  obtain ⟨L0, L1⟩ := L
  obtain ⟨F0, F1⟩ := F
  have F2 : rd path 0 < ((rd_L1 t lst).length : Int) := by rw [hq1]; exact F1
  have hf : Aside0 (ext t len 0 path = if 0 < rd (rd_L1 t lst) (rd path 0) then path else []) := ⟨by rw [ext, hlast]⟩
  have k1 : ((path.length : Int) == (len : Int)) = true := beq_iff_eq.2 (by omega)
  have k2 : (path.length == len) = true := beq_iff_eq.2 (by omega)
  have HH := Aside0.mk (And.intro hlst (And.intro hl (And.intro hq1 hlast)))
  have HI := Aside0.mk hi1
  have HR := Aside0.mk hrp
  clear hs ht hq hrp hi hlst hl hq1 hlast hi1
  by_cases hg : 0 < rd (rd_L1 t lst) (rd path 0)
  · have hfin : Aside0 (ext t len 0 path = path) := ⟨by rw [hf.out, if_pos hg]⟩
    have hgb : decide (0 < rd (rd_L1 t lst) (rd path 0)) = true := decide_eq_true hg
    clear hg hf
    go_enter Try.func70, Try.ntmps70
    go_wp2
    repeat (go_quiet (fail); try go_wp2)
    go_ret
    refine ⟨.slice (some ad) path.length cv, ?_, ?_⟩
    · rw [hfin.out]
      cases path with
      | nil => simp at hn
      | cons x xs => rfl
    · rw [hfin.out]
      repeat (first | exact (by simpa using HS.out) | refine St.drewN ?_ _)
  · have hfin : Aside0 (ext t len 0 path = []) := ⟨by rw [hf.out, if_neg hg]⟩
    have hgb : decide (0 < rd (rd_L1 t lst) (rd path 0)) = false := decide_eq_false hg
    clear hg hf
    go_enter Try.func70, Try.ntmps70
    go_wp2
    repeat (go_quiet (fail); try go_wp2)
    go_ret
    refine ⟨.slice (some ad) path.length cv, ?_, ?_⟩
    · rw [hfin.out]
      rfl
    · rw [hfin.out]
      repeat (first | exact (by simpa using HS.out) | refine St.drewN ?_ _)

end Go.Proofs.Ytdljbmgknhbceaa.A

namespace Go.Proofs.Ytdljbmgknhbceaa.A
open Go.RowKit Go.Proofs.YtdljbmgknhbceaaW.PrintWords Go.Proofs.YtdljbmgknhbceaaW.PrintLast Go.Proofs.YtdljbmgknhbceaaW.PrintMore Go.Proofs.Ytdljbmgknhbceaa.Q
set_option linter.unusedVariables false
set_option linter.unusedSimpArgs false

section
variable {w0 W w1 : World} {bp bl bt be : Nat} {T v v' : Value} {len : Int} {path path' : List Int}
theorem St.mid (h : St w0 W bp bl bt be T len v path) (hg : W.grownBy w1 v.ownBlock) :
    w1.frozen? ⟨bp, 0, none⟩ = false ∧ w1.cell? ⟨bp, 0, none⟩ = some v ∧ w1.cell? ⟨be, 0, none⟩ = some (.func (.func 70) #[] #[.pointer (some ⟨bp, 0, none⟩), .pointer (some ⟨bl, 0, none⟩), .pointer (some ⟨bt, 0, none⟩), .pointer (some ⟨be, 0, none⟩)]) ∧ be ≠ bp := by
  have hn := h.ne
  have kp : w1.heap[bp]? = some (.cells #[v] 31 (0, 0)) := (hg.block _ (lt_of_block h.p) hn.1).trans h.p
  have ke := (hg.block _ (lt_of_block h.e) hn.2.2.2).trans h.e
  exact ⟨free_of_one kp, cell_of_one kp, cell_of_one ke, blk_ne ke kp (by decide)⟩
theorem St.pop {A : Option Addr} {n c : Nat} {x : Int} (h : St w0 W bp bl bt be T len (.slice A n c) (path ++ [x])) : St w0 (W.setCell ⟨bp, 0, none⟩ (.slice A path.length c)) bp bl bt be T len (.slice A path.length c) path := by
  have ht := Kd.R_take (m := path.length) h.r (by simp)
  rw [List.take_left] at ht
  refine ⟨h.below.setCell h.hp _, one_setCell h.p, ?_, ?_, ?_, ?_, h.hp⟩
  · rw [Below.heap_setCell _ _ _ _ (blk_ne h.l h.p (by decide))]; exact h.l
  · rw [Below.heap_setCell _ _ _ _ (blk_ne h.t h.p (by decide))]; exact h.t
  · rw [Below.heap_setCell _ _ _ _ (blk_ne h.e h.p (by decide))]; exact h.e
  · exact Kd.R_set ht h.p (by decide) 0 _
end

theorem rd_left (path : List Int) (x i : Int) (i0 : 0 ≤ i) (h : i < path.length) : rd (path ++ [x]) i = rd path i := by
  simp only [rd, List.getD_eq_getElem?_getD]
  rw [List.getElem?_append_left (by omega)]
theorem rd_right (path : List Int) (x : Int) : rd (path ++ [x]) path.length = x := by
  simp [rd, List.getD_eq_getElem?_getD]
/-- One candidate. -/
def step (t : List (List Int)) (len f : Nat) (path : List Int) (l : Int) (d : Int) : List Int :=
  if rd (rd_L1 t l) d = 0 ∨ path.contains d = true then [] else ext t len f (path ++ [d])
theorem firstOf_no (F : Int → List Int) (d : Int) (ds : List Int) (h : F d = []) : firstOf F (d :: ds) = firstOf F ds := by rw [firstOf, h]
theorem firstOf_yes (F : Int → List Int) (d : Int) (ds : List Int) (x : Int) (xs : List Int) (h : F d = x :: xs) : firstOf F (d :: ds) = x :: xs := by rw [firstOf, h]

set_option maxHeartbeats 2000000 in
set_option maxRecDepth 100000 in
theorem cyc_any (w0 : World) (A : Option Addr) (c : Nat) (t : List (List Int)) (ht : Kd.C (Kd.slice 3 (Kd.int .i64)) w0 A t.length t) (hq : Sq t) (hn100 : t.length ≤ 1000) (len : Nat) (hlen : len < 1000) (bp bl bt be : Nat) :
    ∀ (f : Nat) (path : List Int) (v : Value) (W : World), St w0 W bp bl bt be (.slice A t.length c) len v path → path.length + f = len → 0 < path.length → Ins t path →
    Calls Try.prog 70 #[.pointer (some ⟨bp, 0, none⟩), .pointer (some ⟨bl, 0, none⟩), .pointer (some ⟨bt, 0, none⟩), .pointer (some ⟨be, 0, none⟩)] W (After w0 bp bl bt be (.slice A t.length c) len path (ext t len f path)) := by
  intro f
  induction f with
  | zero => intro path v W hs hl hn hi; exact cyc_zero w0 A c t ht hq len bp bl bt be path v W hs (by omega) hn hi (by omega)
  | succ f ih =>
    intro path v W hs hl hn hi
    obtain ⟨Av, cv, rfl⟩ := Kd.R_slice hs.r
    have HTW := Aside0.mk ht
    have HIH := Aside0.mk ih
    have HQ := Aside0.mk hq
    have hcp := hs.cp
    have hcl := hs.cl
    have hct := hs.ct
    have HS := Aside0.mk hs
    have hrp := (Kd.R_reads' hs.r).2.2
    obtain ⟨ad, e, hx1⟩ := Kd.at_int hrp ((path.length : Int) - 1) (by omega) (by omega)
    cases e
    obtain ⟨ad', e, hx0⟩ := Kd.at_int hrp 0 (by omega) (by omega)
    cases e
    rw [show (0 : Int).toNat = 0 from rfl, Go.Addr.add_zero'] at hx0
    have L := hi ((path.length : Int) - 1) (by omega) (by omega)
    have F := hi 0 (by omega) (by omega)
    have HII := Aside0.mk hi
    obtain ⟨lst, hlst⟩ : ∃ x, x = rd path ((path.length : Int) - 1) := ⟨_, rfl⟩
    have hlast : last path = lst := hlst.symm
    rw [← hlst] at hx1 L
    rw [show ((path.length : Int) - 1).toNat = path.length - 1 from by omega] at hx1
    obtain ⟨L0, L1⟩ := L
    obtain ⟨F0, F1⟩ := F
    have hf : Aside0 (ext t len (f + 1) path = firstOf (step t len f path lst) (upTo (rd path 0 + 1) t.length)) := ⟨by rw [ext, hlast]; rfl⟩
    have k1 : ((path.length : Int) == (len : Int)) = false := beq_eq_false_iff_ne.2 (by omega)
    have k2 : (path.length == len) = false := beq_eq_false_iff_ne.2 (by omega)
    have hq1 : Aside0 ((rd_L1 t lst).length = t.length) := ⟨hq _ L0 L1⟩
    have hpl : path.length < 1000 := by omega
    have HL := Aside0.mk hl
    clear hs ht hq hrp hi hlst hl hlast ih
    go_enter Try.func70, Try.ntmps70
    go_wp2
    go_loopw [6] (fun d wr => ∃ (x : Int) (v' : Value), d = .int .i64 x ∧ Aside0 (0 ≤ x) ∧ Aside0 (ext t len (f + 1) path = firstOf (step t len f path lst) (upTo x t.length)) ∧ Aside0 (St w0 wr bp bl bt be (.slice A t.length c) len v' path)) (fun d _ => t.length - (intOf d).toNat)
    case atStart => exact ⟨rd path 0 + 1, .slice (some ad) path.length cv, rfl, ⟨by omega⟩, hf, HS⟩
    case round =>
      clear hcp hcl hct hx0 hx1 HS hf
      obtain ⟨x, v', rfl, ⟨x0⟩, hE, hS⟩ := hrel
      obtain ⟨Av, cv', rfl⟩ := Kd.R_slice hS.out.r
      have hcp := hS.out.cp
      have hct := hS.out.ct
      obtain ⟨adt, A1, c1, e, hxt, hl1, hi1⟩ := at_L1 (Kd.C_below HTW.out hS.out.below) lst L0 L1
      cases e
      have HI1 := Aside0.mk hi1
      clear hl1
      by_cases hlt : x < t.length
      · have hlb : decide (x < (t.length : Int)) = true := decide_eq_true hlt
        have hup := Aside0.mk (upTo_cons x t.length x0 hlt)
        obtain ⟨adr, e, hxr⟩ := Kd.at_int hi1 x x0 (by rw [hq1.out]; exact hlt)
        cases e
        have hx2 : x < ((rd_L1 t lst).length : Int) := by rw [hq1.out]; exact hlt
        clear hi1
        by_cases hz : rd (rd_L1 t lst) x = 0
        · have hzb : (rd (rd_L1 t lst) x == 0) = true := beq_iff_eq.2 hz
          have hno : Aside0 (step t len f path lst x = []) := ⟨by rw [step, if_pos (.inl hz)]⟩
          clear hz
          go_wp2
          go_roundw
          case rel => exact ⟨x + 1, _, by first | rfl | go_num, ⟨by omega⟩, ⟨by rw [hE.out, hup.out, firstOf_no _ _ _ hno.out]⟩, hS⟩
          case measure => simp [intOf]; omega
        · have hzb : (rd (rd_L1 t lst) x == 0) = false := beq_eq_false_iff_ne.2 hz
          have HRP := Aside0.mk (Kd.R_reads' hS.out.r).2.2
          cases hcn : path.contains x with
          | true =>
            have hno : Aside0 (step t len f path lst x = []) := ⟨by rw [step, if_pos (.inr hcn)]⟩
            have hcn' := Aside0.mk hcn
            clear hz hcn
            go_wp2_with (go_at_call 71; refine (contains_any _ _ _ _ _ HRP.out).mono ?_; rw [hcn'.out]; rintro e w' ⟨rfl, ⟨m2, rfl⟩⟩)
            go_roundw
            case rel => exact ⟨x + 1, _, by first | rfl | go_num, ⟨by omega⟩, ⟨by rw [hE.out, hup.out, firstOf_no _ _ _ hno.out]⟩, ⟨hS.out.drewN _⟩⟩
            case measure => simp [intOf]; omega
          | false =>
            have hst : Aside0 (step t len f path lst x = ext t len f (path ++ [x])) := ⟨by
              rw [step, if_neg]
              rintro (h | h)
              · exact hz h
              · rw [hcn] at h; cases h⟩
            have hcn' := Aside0.mk hcn
            have hins : Aside0 (Ins t (path ++ [x])) := ⟨by
              intro i i0 i1
              rw [List.length_append] at i1
              by_cases hi2 : i < path.length
              · have := HII.out i i0 hi2
                have e : rd (path ++ [x]) i = rd path i := by
                  exact rd_left path x i i0 hi2
                rwa [e]
              · have e : rd (path ++ [x]) i = x := by
                  obtain rfl : i = path.length := by simp at i1; omega
                  exact rd_right path x
                rw [e]
                exact ⟨x0, hlt⟩⟩
            have hbl : Aside0 (bl < wr.heap.size) := ⟨lt_of_block hS.out.l⟩
            have hbase : Aside0 (w0.heap.size ≤ wr.heap.size) := ⟨hS.out.below.size⟩
            clear hz hcn
            obtain ⟨r, hr⟩ : ∃ r, r = ext t len f (path ++ [x]) := ⟨_, rfl⟩
            have HR := Aside0.mk hr
            clear hr
            cases r with
            | nil =>
              go_wp2_with (first
                | (go_at_call 71; refine (contains_any _ _ _ _ _ HRP.out).mono ?_; rw [hcn'.out]; rintro e w' ⟨rfl, ⟨m2, rfl⟩⟩)
                | ((with_reducible refine gate_builtin (b := .append) (xs := #[.tmp 50, .tmp 52]) rfl ?_); at_builtin; refine Kd.R_append (Kd.int .i64) (w0 := w0) w0.heap.size rfl (.tmp 50) (.tmp 52) 31 3 (.int .i64 0) 8 rfl Try.underlying31 info3 rfl (by decide) (by omega) (.slice Av path.length cv') path x [.int .i64 x] (fun k => k ≠ bl) (fun _ => False) rfl rfl ?aP (fun _ hk => hk.elim) ?aF ?aO ?aB ?aS ?aL ?_; (case aP => exact rfl); (case aB => exact pw_below_drewN hS.out.below _); (case aF => exact (fun k hk => by have := hbl.out; simp at hk; omega)); (case aO => exact Kd.R_drewN hS.out.r _); (case aS => exact (by have := hbase.out; simpa using this)); (case aL => omega); intro v1 w1 ho hb hg hat; obtain ⟨Ao, co, eo⟩ : ∃ A c, v1 = .slice A (path.length + 1) c := (by obtain ⟨A, c, e⟩ := Kd.R_slice ho; exact ⟨A, c, by rw [e]; simp⟩); subst eo; have hm := St.mid (hS.out.drewN _) hg; obtain ⟨m1, m2, m3, m4⟩ := hm; have hS1 := Aside0.mk (St.grown (hS.out.drewN _) hg hb ho); clear ho hb hg hat)
                | (go_at_call 70; refine (HIH.out _ _ _ hS1.out (by have := HL.out; simp; omega) (by simp) hins.out).mono ?_; rw [← HR.out]; rintro e W2 ⟨v2, rfl, hS2⟩; replace hS2 : St w0 W2 bp bl bt be (.slice (some adt) t.length c) len v2 (path ++ [x]) := hS2; obtain ⟨A2, c2, e2⟩ : ∃ A c, v2 = .slice A (path.length + 1) c := (by obtain ⟨A, c, e⟩ := Kd.R_slice hS2.r; exact ⟨A, c, by rw [e]; simp⟩); subst e2; have hcp2 := hS2.cp; have hfp2 := hS2.fp; have hcap2 : path.length + 1 ≤ c2 := (Kd.R_reads' hS2.r).2.1; replace hS2 := Aside0.mk hS2; clear hS1 m1 m2 m3 m4))
              go_roundw
              case rel => exact ⟨x + 1, _, by first | rfl | go_num, ⟨by omega⟩, ⟨by rw [hE.out, hup.out, firstOf_no _ _ _ (by rw [hst.out, ← HR.out])]⟩, ⟨St.pop hS2.out⟩⟩
              case measure => simp [intOf]; omega
            | cons y ys =>
              go_wp2_with (first
                | (go_at_call 71; refine (contains_any _ _ _ _ _ HRP.out).mono ?_; rw [hcn'.out]; rintro e w' ⟨rfl, ⟨m2, rfl⟩⟩)
                | ((with_reducible refine gate_builtin (b := .append) (xs := #[.tmp 50, .tmp 52]) rfl ?_); at_builtin; refine Kd.R_append (Kd.int .i64) (w0 := w0) w0.heap.size rfl (.tmp 50) (.tmp 52) 31 3 (.int .i64 0) 8 rfl Try.underlying31 info3 rfl (by decide) (by omega) (.slice Av path.length cv') path x [.int .i64 x] (fun k => k ≠ bl) (fun _ => False) rfl rfl ?aP (fun _ hk => hk.elim) ?aF ?aO ?aB ?aS ?aL ?_; (case aP => exact rfl); (case aB => exact pw_below_drewN hS.out.below _); (case aF => exact (fun k hk => by have := hbl.out; simp at hk; omega)); (case aO => exact Kd.R_drewN hS.out.r _); (case aS => exact (by have := hbase.out; simpa using this)); (case aL => omega); intro v1 w1 ho hb hg hat; obtain ⟨Ao, co, eo⟩ : ∃ A c, v1 = .slice A (path.length + 1) c := (by obtain ⟨A, c, e⟩ := Kd.R_slice ho; exact ⟨A, c, by rw [e]; simp⟩); subst eo; have hm := St.mid (hS.out.drewN _) hg; obtain ⟨m1, m2, m3, m4⟩ := hm; have hS1 := Aside0.mk (St.grown (hS.out.drewN _) hg hb ho); clear ho hb hg hat)
                | (go_at_call 70; refine (HIH.out _ _ _ hS1.out (by have := HL.out; simp; omega) (by simp) hins.out).mono ?_; rw [← HR.out]; rintro e W2 ⟨v2, rfl, hS2⟩; replace hS2 : St w0 W2 bp bl bt be (.slice (some adt) t.length c) len v2 (y :: ys) := hS2; replace hS2 := Aside0.mk hS2; clear hS1 m1 m2 m3 m4))
              go_ret
              have hfin : ext t len (f + 1) path = y :: ys := by rw [hE.out, hup.out, firstOf_yes _ _ _ _ _ (by rw [hst.out, ← HR.out])]
              exact ⟨_, by rw [hfin]; rfl, by rw [hfin]; exact hS2.out⟩
      · have hlb : decide (x < (t.length : Int)) = false := decide_eq_false hlt
        have hnil : Aside0 (ext t len (f + 1) path = []) := ⟨by rw [hE.out, upTo_end _ _ (by omega)]; rfl⟩
        go_wp2
        go_ret
        exact ⟨_, by rw [hnil.out]; rfl, by rw [hnil.out]; exact hS.out⟩

end Go.Proofs.Ytdljbmgknhbceaa.A

namespace Go.Proofs.Ytdljbmgknhbceaa.A
open Go.RowKit Go.Proofs.YtdljbmgknhbceaaW.PrintWords Go.Proofs.YtdljbmgknhbceaaW.PrintLast Go.Proofs.YtdljbmgknhbceaaW.PrintMore Go.Proofs.Ytdljbmgknhbceaa.Q
set_option linter.unusedVariables false
set_option linter.unusedSimpArgs false

section
variable {w0 W w1 : World} {bp bl bt be : Nat} {T v v' : Value} {len : Int} {path path' : List Int}
theorem St.fresh (h : St w0 W bp bl bt be T len v path) (hg : W.grownBy w1 none) (hb : Below w0.heap.size w0 w1) (hr : Kd.R (Kd.int .i64) 3 w1 w0.heap.size (fun k => k ≠ bl) v' path') :
    St w0 (w1.setCell ⟨bp, 0, none⟩ v') bp bl bt be T len v' path' := by
  have kp : w1.heap[bp]? = some (.cells #[v] 31 (0, 0)) := (hg.block _ (lt_of_block h.p) (by simp)).trans h.p
  have kl : w1.heap[bl]? = some (.cells #[.int .i64 len] 3 (0, 0)) := (hg.block _ (lt_of_block h.l) (by simp)).trans h.l
  have kt := (hg.block _ (lt_of_block h.t) (by simp)).trans h.t
  have ke := (hg.block _ (lt_of_block h.e) (by simp)).trans h.e
  refine ⟨hb.setCell h.hp _, one_setCell kp, ?_, ?_, ?_, ?_, h.hp⟩
  · rw [Below.heap_setCell _ _ _ _ (blk_ne kl kp (by decide))]; exact kl
  · rw [Below.heap_setCell _ _ _ _ (blk_ne kt kp (by decide))]; exact kt
  · rw [Below.heap_setCell _ _ _ _ (blk_ne ke kp (by decide))]; exact ke
  · exact Kd.R_set hr kp (by decide) 0 _
theorem St.mid' (h : St w0 W bp bl bt be T len v path) (hg : W.grownBy w1 none) :
    w1.frozen? ⟨bp, 0, none⟩ = false ∧ w1.cell? ⟨bp, 0, none⟩ = some v ∧ w1.cell? ⟨be, 0, none⟩ = some (.func (.func 70) #[] #[.pointer (some ⟨bp, 0, none⟩), .pointer (some ⟨bl, 0, none⟩), .pointer (some ⟨bt, 0, none⟩), .pointer (some ⟨be, 0, none⟩)]) ∧ be ≠ bp := by
  have kp : w1.heap[bp]? = some (.cells #[v] 31 (0, 0)) := (hg.block _ (lt_of_block h.p) (by simp)).trans h.p
  have ke := (hg.block _ (lt_of_block h.e) (by simp)).trans h.e
  exact ⟨free_of_one kp, cell_of_one kp, cell_of_one ke, blk_ne ke kp (by decide)⟩
end

def cycleOf (t : List (List Int)) (len : Nat) : List Int := firstOf (fun d => ext t len (len - 1) [d]) (upTo 0 t.length)

theorem heap_at {w : World} (o : Obj) {k : Nat} (h : k = w.heap.size) : (w.alloc o).heap[k]? = some o := by
  subst h
  show (w.heap.push o)[w.heap.size]? = some o
  simp
theorem heap_old {w : World} (o : Obj) {k : Nat} (h : k < w.heap.size) : (w.alloc o).heap[k]? = w.heap[k]? := Below.heap_alloc w o k h

theorem St.init (w : World) (T : Value) (len : Int) :
    St w ((((w.alloc (.cells #[T] 22)).alloc (.cells #[.int .i64 len] 3)).alloc (.cells #[.slice none 0 0] 31)).alloc (.cells #[.func (.func 70) #[] #[.pointer (some ⟨w.heap.size + 1 + 1, 0, none⟩), .pointer (some ⟨w.heap.size + 1, 0, none⟩), .pointer (some ⟨w.heap.size, 0, none⟩), .pointer (some ⟨w.heap.size + 1 + 1 + 1, 0, none⟩)]] 25)) (w.heap.size + 1 + 1) (w.heap.size + 1) w.heap.size (w.heap.size + 1 + 1 + 1) T len (.slice none 0 0) [] := by
  have s1 : ∀ o, (w.alloc o).heap.size = w.heap.size + 1 := fun o => by simp
  have s2 : ∀ o o', ((w.alloc o).alloc o').heap.size = w.heap.size + 1 + 1 := fun o o' => by simp
  have s3 : ∀ o o' o'', (((w.alloc o).alloc o').alloc o'').heap.size = w.heap.size + 1 + 1 + 1 := fun o o' o'' => by simp
  refine ⟨?_, ?_, ?_, ?_, heap_at _ (by rw [s3]), Kd.R_nil _ _ _ _ _, by omega⟩
  · exact ((((Below.refl _ _).alloc (by omega) _).alloc (by rw [s1]; omega) _).alloc (by rw [s2]; omega) _).alloc (by rw [s3]; omega) _
  · rw [heap_old _ (by rw [s3]; omega)]; exact heap_at _ (by rw [s2])
  · rw [heap_old _ (by rw [s3]; omega), heap_old _ (by rw [s2]; omega)]; exact heap_at _ (by rw [s1])
  · rw [heap_old _ (by rw [s3]; omega), heap_old _ (by rw [s2]; omega), heap_old _ (by rw [s1]; omega)]; exact heap_at _ rfl

set_option maxHeartbeats 2000000 in
set_option maxRecDepth 100000 in
theorem cycle_any (A : Option Addr) (c : Nat) (t : List (List Int)) (w : World) (ht : Kd.C (Kd.slice 3 (Kd.int .i64)) w A t.length t) (hq : Sq t) (hn100 : t.length ≤ 1000) (len : Nat) (hlen : len < 1000) (hlen1 : 1 ≤ len) :
    Calls Try.prog 54 #[.slice A t.length c, .int .i64 len] w fun e w' => ∃ v : Value, e = .returned v ∧ Kd.R (Kd.int .i64) 3 w' w.heap.size (fun _ => True) v (cycleOf t len) ∧ (cycleOf t len = [] → v = .slice none 0 0) ∧ Below w.heap.size w w' := by
  have HT := Aside0.mk ht
  have HQ := Aside0.mk hq
  have HC := Aside0.mk (cyc_any w A c t ht hq hn100 len hlen (w.heap.size + 1 + 1) (w.heap.size + 1) w.heap.size (w.heap.size + 1 + 1 + 1))
  have HI := Aside0.mk (St.init w (.slice A t.length c) len)
  have hct := HI.out.ct
  clear ht hq
  go_enter Try.func54, Try.ntmps54
  go_wp2_with fail
  go_loopw [11] (fun d wr => ∃ (k : Nat) (v' : Value) (path : List Int), d = .int .i64 k ∧ Aside0 (k ≤ t.length) ∧ Aside0 (cycleOf t len = firstOf (fun d => ext t len (len - 1) [d]) (upTo k t.length)) ∧ Aside0 (St w wr (w.heap.size + 1 + 1) (w.heap.size + 1) w.heap.size (w.heap.size + 1 + 1 + 1) (.slice A t.length c) len v' path)) (fun d _ => t.length - (intOf d).toNat)
  case atStart => exact ⟨0, _, [], rfl, ⟨by omega⟩, ⟨rfl⟩, HI⟩
  case round =>
    clear HI hct
    obtain ⟨k, v', path, rfl, hk, hE, hS⟩ := hrel
    by_cases hlt : k < t.length
    · have hup := Aside0.mk (upTo_cons (k : Int) t.length (by omega) (by omega))
      obtain ⟨r, hr⟩ : ∃ r, r = ext t len (len - 1) [(k : Int)] := ⟨_, rfl⟩
      have HR := Aside0.mk hr
      have hbl : Aside0 (w.heap.size + 1 < wr.heap.size) := ⟨lt_of_block hS.out.l⟩
      have hins : Aside0 (Ins t [(k : Int)]) := ⟨by
        intro i i0 i1
        obtain rfl : i = 0 := by simp at i1; omega
        show 0 ≤ (k : Int) ∧ (k : Int) < t.length
        omega⟩
      clear hr
      cases r with
      | nil =>
        go_wp2_with (first
          | ((with_reducible refine gate_dst (N := 15) rfl ?_); refine Kd.R_lit (Kd.int .i64) (w0 := w) w.heap.size 3 ?hg (N := 15) ?hd (xs := [(k : Int)]) (inner := [.int .i64 (k : Int)]) (ok := fun q => q ≠ w.heap.size + 1) (okp := fun _ => False) ?hr ?hp (fun _ hk => hk.elim) ?hf hS.out.below hS.out.below.size (by simp) ?_; (case hd => rfl); (case hg => rfl); (case hr => first | (go_simp; done) | (go_simp; rfl)); (case hp => exact (Reps.one (show Kd.M (Kd.int .i64) _ _ _ (k : Int) [.int .i64 (k : Int)] from rfl) (Reps.none _ _))); (case hf => exact (by have := hbl.out; simp; omega)); intro v1 w1 ho hb hg _; obtain ⟨Ao, co, eo⟩ := Kd.R_slice ho; subst eo; have hm := St.mid' hS.out hg; obtain ⟨m1, m2, m3, m4⟩ := hm; have hS1 := Aside0.mk (St.fresh hS.out hg hb ho); clear ho hb hg)
          | (go_at_call 70; refine (HC.out (len - 1) [(k : Int)] _ _ hS1.out (by simp; omega) (by simp) hins.out).mono ?_; rw [← HR.out]; rintro e W2 ⟨v2, rfl, hS2⟩; replace hS2 : St w W2 (w.heap.size + 1 + 1) (w.heap.size + 1) w.heap.size (w.heap.size + 1 + 1 + 1) (.slice A t.length c) len v2 [(k : Int)] := hS2; replace hS2 := Aside0.mk hS2; clear hS1 m1 m2 m3 m4))
        go_roundw
        case rel => exact ⟨k + 1, _, _, by go_num, ⟨by omega⟩, ⟨by rw [hE.out, hup.out, firstOf_no _ _ _ HR.out.symm]; rfl⟩, hS2⟩
        case measure => simp [intOf]; omega
      | cons y ys =>
        go_wp2_with (first
          | ((with_reducible refine gate_dst (N := 15) rfl ?_); refine Kd.R_lit (Kd.int .i64) (w0 := w) w.heap.size 3 ?hg (N := 15) ?hd (xs := [(k : Int)]) (inner := [.int .i64 (k : Int)]) (ok := fun q => q ≠ w.heap.size + 1) (okp := fun _ => False) ?hr ?hp (fun _ hk => hk.elim) ?hf hS.out.below hS.out.below.size (by simp) ?_; (case hd => rfl); (case hg => rfl); (case hr => first | (go_simp; done) | (go_simp; rfl)); (case hp => exact (Reps.one (show Kd.M (Kd.int .i64) _ _ _ (k : Int) [.int .i64 (k : Int)] from rfl) (Reps.none _ _))); (case hf => exact (by have := hbl.out; simp; omega)); intro v1 w1 ho hb hg _; obtain ⟨Ao, co, eo⟩ := Kd.R_slice ho; subst eo; have hm := St.mid' hS.out hg; obtain ⟨m1, m2, m3, m4⟩ := hm; have hS1 := Aside0.mk (St.fresh hS.out hg hb ho); clear ho hb hg)
          | (go_at_call 70; refine (HC.out (len - 1) [(k : Int)] _ _ hS1.out (by simp; omega) (by simp) hins.out).mono ?_; rw [← HR.out]; rintro e W2 ⟨v2, rfl, hS2⟩; replace hS2 : St w W2 (w.heap.size + 1 + 1) (w.heap.size + 1) w.heap.size (w.heap.size + 1 + 1 + 1) (.slice A t.length c) len v2 (y :: ys) := hS2; have hcp2 := hS2.cp; replace hS2 := Aside0.mk hS2; clear hS1 m1 m2 m3 m4))
        go_ret
        have hfin : cycleOf t len = y :: ys := by rw [hE.out, hup.out, firstOf_yes _ _ _ _ _ HR.out.symm]
        exact ⟨_, rfl, by rw [hfin]; exact Kd.R_mono hS2.out.r (fun _ _ => trivial), by rw [hfin]; simp, hS2.out.below⟩
    · have hnil : Aside0 (cycleOf t len = []) := ⟨by rw [hE.out, upTo_end _ _ (by omega)]; rfl⟩
      go_wp2
      go_ret
      exact ⟨_, rfl, by rw [hnil.out]; exact Kd.R_nil _ _ _ _ _, fun _ => rfl, hS.out.below⟩
end Go.Proofs.Ytdljbmgknhbceaa.A
