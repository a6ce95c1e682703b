import Derived.Test.YtdljbmgknhbceaaA5
namespace Go.Proofs.Ytdljbmgknhbceaa.A
open Go.RowKit Go.Proofs.YtdljbmgknhbceaaW.PrintWords Go.Proofs.YtdljbmgknhbceaaW.PrintLast Go.Proofs.YtdljbmgknhbceaaW.PrintMore Go.Proofs.Ytdljbmgknhbceaa.Q
set_option linter.unusedVariables false
set_option linter.unusedSimpArgs false

section
variable {w0 W w1 : World} {bp bl bt be : Nat} {T v v' : Value} {len : Int} {path path' : List Int}
theorem St.mid (h : St w0 W bp bl bt be T len v path) (hg : W.grownBy w1 v.ownBlock) :
    w1.frozen? ⟨bp, 0, none⟩ = false ∧ w1.cell? ⟨bp, 0, none⟩ = some v ∧ w1.cell? ⟨be, 0, none⟩ = some (.func (.func 70) #[] #[.pointer (some ⟨bp, 0, none⟩), .pointer (some ⟨bl, 0, none⟩), .pointer (some ⟨bt, 0, none⟩), .pointer (some ⟨be, 0, none⟩)]) ∧ be ≠ bp := by
  have hn := h.ne
  have kp : w1.heap[bp]? = some (.cells #[v] 31 (0, 0)) := (hg.block _ (lt_of_block h.p) hn.1).trans h.p
  have ke := (hg.block _ (lt_of_block h.e) hn.2.2.2).trans h.e
  exact ⟨free_of_one kp, cell_of_one kp, cell_of_one ke, blk_ne ke kp (by decide)⟩
theorem St.pop {A : Option Addr} {n c : Nat} {x : Int} (h : St w0 W bp bl bt be T len (.slice A n c) (path ++ [x])) : St w0 (W.setCell ⟨bp, 0, none⟩ (.slice A path.length c)) bp bl bt be T len (.slice A path.length c) path := by
  have ht := Kd.R_take (m := path.length) h.r (by simp)
  rw [List.take_left] at ht
  refine ⟨h.below.setCell h.hp _, one_setCell h.p, ?_, ?_, ?_, ?_, h.hp⟩
  · rw [Below.heap_setCell _ _ _ _ (blk_ne h.l h.p (by decide))]; exact h.l
  · rw [Below.heap_setCell _ _ _ _ (blk_ne h.t h.p (by decide))]; exact h.t
  · rw [Below.heap_setCell _ _ _ _ (blk_ne h.e h.p (by decide))]; exact h.e
  · exact Kd.R_set ht h.p (by decide) 0 _
end

theorem rd_left (path : List Int) (x i : Int) (i0 : 0 ≤ i) (h : i < path.length) : rd (path ++ [x]) i = rd path i := by
  simp only [rd, List.getD_eq_getElem?_getD]
  rw [List.getElem?_append_left (by omega)]
theorem rd_right (path : List Int) (x : Int) : rd (path ++ [x]) path.length = x := by
  simp [rd, List.getD_eq_getElem?_getD]
/-- One candidate. -/
def step (t : List (List Int)) (len f : Nat) (path : List Int) (l : Int) (d : Int) : List Int :=
  if rd (rd_L1 t l) d = 0 ∨ path.contains d = true then [] else ext t len f (path ++ [d])
theorem firstOf_no (F : Int → List Int) (d : Int) (ds : List Int) (h : F d = []) : firstOf F (d :: ds) = firstOf F ds := by rw [firstOf, h]
theorem firstOf_yes (F : Int → List Int) (d : Int) (ds : List Int) (x : Int) (xs : List Int) (h : F d = x :: xs) : firstOf F (d :: ds) = x :: xs := by rw [firstOf, h]

set_option maxHeartbeats 2000000 in
set_option maxRecDepth 100000 in
theorem cyc_any (w0 : World) (A : Option Addr) (c : Nat) (t : List (List Int)) (ht : Kd.C (Kd.slice 3 (Kd.int .i64)) w0 A t.length t) (hq : Sq t) (hn100 : t.length ≤ 1000) (len : Nat) (hlen : len < 1000) (bp bl bt be : Nat) :
    ∀ (f : Nat) (path : List Int) (v : Value) (W : World), St w0 W bp bl bt be (.slice A t.length c) len v path → path.length + f = len → 0 < path.length → Ins t path →
    Calls Try.prog 70 #[.pointer (some ⟨bp, 0, none⟩), .pointer (some ⟨bl, 0, none⟩), .pointer (some ⟨bt, 0, none⟩), .pointer (some ⟨be, 0, none⟩)] W (After w0 bp bl bt be (.slice A t.length c) len path (ext t len f path)) := by
  intro f
  induction f with
  | zero => intro path v W hs hl hn hi; exact cyc_zero w0 A c t ht hq len bp bl bt be path v W hs (by omega) hn hi (by omega)
  | succ f ih =>
    intro path v W hs hl hn hi
    obtain ⟨Av, cv, rfl⟩ := Kd.R_slice hs.r
    have HTW := Aside0.mk ht
    have HIH := Aside0.mk ih
    have HQ := Aside0.mk hq
    have hcp := hs.cp
    have hcl := hs.cl
    have hct := hs.ct
    have HS := Aside0.mk hs
    have hrp := (Kd.R_reads' hs.r).2.2
    obtain ⟨ad, e, hx1⟩ := Kd.at_int hrp ((path.length : Int) - 1) (by omega) (by omega)
    cases e
    obtain ⟨ad', e, hx0⟩ := Kd.at_int hrp 0 (by omega) (by omega)
    cases e
    rw [show (0 : Int).toNat = 0 from rfl, Go.Addr.add_zero'] at hx0
    have L := hi ((path.length : Int) - 1) (by omega) (by omega)
    have F := hi 0 (by omega) (by omega)
    have HII := Aside0.mk hi
    obtain ⟨lst, hlst⟩ : ∃ x, x = rd path ((path.length : Int) - 1) := ⟨_, rfl⟩
    have hlast : last path = lst := hlst.symm
    rw [← hlst] at hx1 L
    rw [show ((path.length : Int) - 1).toNat = path.length - 1 from by omega] at hx1
    obtain ⟨L0, L1⟩ := L
    obtain ⟨F0, F1⟩ := F
    have hf : Aside0 (ext t len (f + 1) path = firstOf (step t len f path lst) (upTo (rd path 0 + 1) t.length)) := ⟨by rw [ext, hlast]; rfl⟩
    have k1 : ((path.length : Int) == (len : Int)) = false := beq_eq_false_iff_ne.2 (by omega)
    have k2 : (path.length == len) = false := beq_eq_false_iff_ne.2 (by omega)
    have hq1 : Aside0 ((rd_L1 t lst).length = t.length) := ⟨hq _ L0 L1⟩
    have hpl : path.length < 1000 := by omega
    have HL := Aside0.mk hl
    clear hs ht hq hrp hi hlst hl hlast ih
    go_enter Try.func70, Try.ntmps70
    go_wp2
    go_loopw [6] (fun d wr => ∃ (x : Int) (v' : Value), d = .int .i64 x ∧ Aside0 (0 ≤ x) ∧ Aside0 (ext t len (f + 1) path = firstOf (step t len f path lst) (upTo x t.length)) ∧ Aside0 (St w0 wr bp bl bt be (.slice A t.length c) len v' path)) (fun d _ => t.length - (intOf d).toNat)
    case atStart => exact ⟨rd path 0 + 1, .slice (some ad) path.length cv, rfl, ⟨by omega⟩, hf, HS⟩
    case round =>
      clear hcp hcl hct hx0 hx1 HS hf
      obtain ⟨x, v', rfl, ⟨x0⟩, hE, hS⟩ := hrel
      obtain ⟨Av, cv', rfl⟩ := Kd.R_slice hS.out.r
      have hcp := hS.out.cp
      have hct := hS.out.ct
      obtain ⟨adt, A1, c1, e, hxt, hl1, hi1⟩ := at_L1 (Kd.C_below HTW.out hS.out.below) lst L0 L1
      cases e
      have HI1 := Aside0.mk hi1
      clear hl1
      by_cases hlt : x < t.length
      · have hlb : decide (x < (t.length : Int)) = true := decide_eq_true hlt
        have hup := Aside0.mk (upTo_cons x t.length x0 hlt)
        obtain ⟨adr, e, hxr⟩ := Kd.at_int hi1 x x0 (by rw [hq1.out]; exact hlt)
        cases e
        have hx2 : x < ((rd_L1 t lst).length : Int) := by rw [hq1.out]; exact hlt
        clear hi1
        by_cases hz : rd (rd_L1 t lst) x = 0
        · have hzb : (rd (rd_L1 t lst) x == 0) = true := beq_iff_eq.2 hz
          have hno : Aside0 (step t len f path lst x = []) := ⟨by rw [step, if_pos (.inl hz)]⟩
          clear hz
          go_wp2
          go_roundw
          case rel => exact ⟨x + 1, _, by first | rfl | go_num, ⟨by omega⟩, ⟨by rw [hE.out, hup.out, firstOf_no _ _ _ hno.out]⟩, hS⟩
          case measure => simp [intOf]; omega
        · have hzb : (rd (rd_L1 t lst) x == 0) = false := beq_eq_false_iff_ne.2 hz
          have HRP := Aside0.mk (Kd.R_reads' hS.out.r).2.2
          cases hcn : path.contains x with
          | true =>
            have hno : Aside0 (step t len f path lst x = []) := ⟨by rw [step, if_pos (.inr hcn)]⟩
            have hcn' := Aside0.mk hcn
            clear hz hcn
            go_wp2_with (go_at_call 71; refine (contains_any _ _ _ _ _ HRP.out).mono ?_; rw [hcn'.out]; rintro e w' ⟨rfl, ⟨m2, rfl⟩⟩)
            go_roundw
            case rel => exact ⟨x + 1, _, by first | rfl | go_num, ⟨by omega⟩, ⟨by rw [hE.out, hup.out, firstOf_no _ _ _ hno.out]⟩, ⟨hS.out.drewN _⟩⟩
            case measure => simp [intOf]; omega
          | false =>
            have hst : Aside0 (step t len f path lst x = ext t len f (path ++ [x])) := ⟨by
              rw [step, if_neg]
              rintro (h | h)
              · exact hz h
              · rw [hcn] at h; cases h⟩
            have hcn' := Aside0.mk hcn
            have hins : Aside0 (Ins t (path ++ [x])) := ⟨by
              intro i i0 i1
              rw [List.length_append] at i1
              by_cases hi2 : i < path.length
              · have := HII.out i i0 hi2
                have e : rd (path ++ [x]) i = rd path i := by
                  exact rd_left path x i i0 hi2
                rwa [e]
              · have e : rd (path ++ [x]) i = x := by
                  obtain rfl : i = path.length := by simp at i1; omega
                  exact rd_right path x
                rw [e]
                exact ⟨x0, hlt⟩⟩
            have hbl : Aside0 (bl < wr.heap.size) := ⟨lt_of_block hS.out.l⟩
            have hbase : Aside0 (w0.heap.size ≤ wr.heap.size) := ⟨hS.out.below.size⟩
            clear hz hcn
            obtain ⟨r, hr⟩ : ∃ r, r = ext t len f (path ++ [x]) := ⟨_, rfl⟩
            have HR := Aside0.mk hr
            clear hr
            cases r with
            | nil =>
              go_wp2_with (first
                | (go_at_call 71; refine (contains_any _ _ _ _ _ HRP.out).mono ?_; rw [hcn'.out]; rintro e w' ⟨rfl, ⟨m2, rfl⟩⟩)
                | ((with_reducible refine gate_builtin (b := .append) (xs := #[.tmp 50, .tmp 52]) rfl ?_); at_builtin; refine Kd.R_append (Kd.int .i64) (w0 := w0) w0.heap.size rfl (.tmp 50) (.tmp 52) 31 3 (.int .i64 0) 8 rfl Try.underlying31 info3 rfl (by decide) (by omega) (.slice Av path.length cv') path x [.int .i64 x] (fun k => k ≠ bl) (fun _ => False) rfl rfl ?aP (fun _ hk => hk.elim) ?aF ?aO ?aB ?aS ?aL ?_; (case aP => exact rfl); (case aB => exact pw_below_drewN hS.out.below _); (case aF => exact (fun k hk => by have := hbl.out; simp at hk; omega)); (case aO => exact Kd.R_drewN hS.out.r _); (case aS => exact (by have := hbase.out; simpa using this)); (case aL => omega); intro v1 w1 ho hb hg hat; obtain ⟨Ao, co, eo⟩ : ∃ A c, v1 = .slice A (path.length + 1) c := (by obtain ⟨A, c, e⟩ := Kd.R_slice ho; exact ⟨A, c, by rw [e]; simp⟩); subst eo; have hm := St.mid (hS.out.drewN _) hg; obtain ⟨m1, m2, m3, m4⟩ := hm; have hS1 := Aside0.mk (St.grown (hS.out.drewN _) hg hb ho); clear ho hb hg hat)
                | (go_at_call 70; refine (HIH.out _ _ _ hS1.out (by have := HL.out; simp; omega) (by simp) hins.out).mono ?_; rw [← HR.out]; rintro e W2 ⟨v2, rfl, hS2⟩; replace hS2 : St w0 W2 bp bl bt be (.slice (some adt) t.length c) len v2 (path ++ [x]) := hS2; obtain ⟨A2, c2, e2⟩ : ∃ A c, v2 = .slice A (path.length + 1) c := (by obtain ⟨A, c, e⟩ := Kd.R_slice hS2.r; exact ⟨A, c, by rw [e]; simp⟩); subst e2; have hcp2 := hS2.cp; have hfp2 := hS2.fp; have hcap2 : path.length + 1 ≤ c2 := (Kd.R_reads' hS2.r).2.1; replace hS2 := Aside0.mk hS2; clear hS1 m1 m2 m3 m4))
              go_roundw
              case rel => exact ⟨x + 1, _, by first | rfl | go_num, ⟨by omega⟩, ⟨by rw [hE.out, hup.out, firstOf_no _ _ _ (by rw [hst.out, ← HR.out])]⟩, ⟨St.pop hS2.out⟩⟩
              case measure => simp [intOf]; omega
            | cons y ys =>
              go_wp2_with (first
                | (go_at_call 71; refine (contains_any _ _ _ _ _ HRP.out).mono ?_; rw [hcn'.out]; rintro e w' ⟨rfl, ⟨m2, rfl⟩⟩)
                | ((with_reducible refine gate_builtin (b := .append) (xs := #[.tmp 50, .tmp 52]) rfl ?_); at_builtin; refine Kd.R_append (Kd.int .i64) (w0 := w0) w0.heap.size rfl (.tmp 50) (.tmp 52) 31 3 (.int .i64 0) 8 rfl Try.underlying31 info3 rfl (by decide) (by omega) (.slice Av path.length cv') path x [.int .i64 x] (fun k => k ≠ bl) (fun _ => False) rfl rfl ?aP (fun _ hk => hk.elim) ?aF ?aO ?aB ?aS ?aL ?_; (case aP => exact rfl); (case aB => exact pw_below_drewN hS.out.below _); (case aF => exact (fun k hk => by have := hbl.out; simp at hk; omega)); (case aO => exact Kd.R_drewN hS.out.r _); (case aS => exact (by have := hbase.out; simpa using this)); (case aL => omega); intro v1 w1 ho hb hg hat; obtain ⟨Ao, co, eo⟩ : ∃ A c, v1 = .slice A (path.length + 1) c := (by obtain ⟨A, c, e⟩ := Kd.R_slice ho; exact ⟨A, c, by rw [e]; simp⟩); subst eo; have hm := St.mid (hS.out.drewN _) hg; obtain ⟨m1, m2, m3, m4⟩ := hm; have hS1 := Aside0.mk (St.grown (hS.out.drewN _) hg hb ho); clear ho hb hg hat)
                | (go_at_call 70; refine (HIH.out _ _ _ hS1.out (by have := HL.out; simp; omega) (by simp) hins.out).mono ?_; rw [← HR.out]; rintro e W2 ⟨v2, rfl, hS2⟩; replace hS2 : St w0 W2 bp bl bt be (.slice (some adt) t.length c) len v2 (y :: ys) := hS2; replace hS2 := Aside0.mk hS2; clear hS1 m1 m2 m3 m4))
              go_ret
              have hfin : ext t len (f + 1) path = y :: ys := by rw [hE.out, hup.out, firstOf_yes _ _ _ _ _ (by rw [hst.out, ← HR.out])]
              exact ⟨_, by rw [hfin]; rfl, by rw [hfin]; exact hS2.out⟩
      · have hlb : decide (x < (t.length : Int)) = false := decide_eq_false hlt
        have hnil : Aside0 (ext t len (f + 1) path = []) := ⟨by rw [hE.out, upTo_end _ _ (by omega)]; rfl⟩
        go_wp2
        go_ret
        exact ⟨_, by rw [hnil.out]; rfl, by rw [hnil.out]; exact hS.out⟩

end Go.Proofs.Ytdljbmgknhbceaa.A
