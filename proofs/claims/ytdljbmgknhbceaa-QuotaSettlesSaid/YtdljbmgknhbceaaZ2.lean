-- Merged by wip/tools/shake.py out of: Bb, Bc, M1, Qr, Pl, M2
import Derived.Test.YtdljbmgknhbceaaZ1
import Derived.Laws.EntriesVeiled
import Derived.StillTailTactics
import Derived.IntWalk
set_option linter.unusedVariables false
set_option linter.unusedSimpArgs false
set_option linter.unusedSectionVars false
section
namespace Go.Proofs.Ytdljbmgknhbceaa.A
open Go.RowKit Go.Proofs.YtdljbmgknhbceaaW.PrintWords Go.Proofs.YtdljbmgknhbceaaW.PrintLast Go.Proofs.YtdljbmgknhbceaaW.PrintMore Go.Proofs.Ytdljbmgknhbceaa.Q
def After (w0 : World) (bp bl bt be : Nat) (T : Value) (len : Int) (path found : List Int) (e : Ending) (W' : World) : Prop :=
 ∃ v', e = .returned (.bool (!found.isEmpty)) ∧ St w0 W' bp bl bt be T len v' (if found.isEmpty = true then path else found)
def Sq (t : List (List Int)) : Prop := ∀ i : Int, 0 ≤ i → i < t.length → (rd_L1 t i).length = t.length
def Ins (t : List (List Int)) (path : List Int) : Prop := ∀ i : Int, 0 ≤ i → i < path.length → 0 ≤ rd path i ∧ rd path i < t.length
set_option maxHeartbeats 1000000 in
set_option maxRecDepth 100000 in
theorem cyc_zero (w0 : World) (A : Option Addr) (c : Nat) (t : List (List Int)) (ht : Kd.C (Kd.slice 3 (Kd.int .i64)) w0 A t.length t) (hq : Sq t) (len : Nat) (bp bl bt be : Nat)
 (path : List Int) (v : Value) (W : World) (hs : St w0 W bp bl bt be (.slice A t.length c) len v path) (hl : path.length = len) (hn : 0 < path.length) (hi : Ins t path) (hb : path.length < 1000) :
 Calls Try.prog 70 #[.pointer (some ⟨bp, 0, none⟩), .pointer (some ⟨bl, 0, none⟩), .pointer (some ⟨bt, 0, none⟩), .pointer (some ⟨be, 0, none⟩)] W (After w0 bp bl bt be (.slice A t.length c) len path (ext t len 0 path)) := by
 obtain ⟨Av, cv, rfl⟩ := Kd.R_slice hs.r
 have hcp := hs.cp
 have hcl := hs.cl
 have hct := hs.ct
 have HS := sA hs
 have HT := sA (Kd.C_below ht hs.below)
 have hrp := (Kd.R_reads' hs.r).2.2
 obtain ⟨ad, e, hx1⟩ := Kd.at_int hrp ((path.length : Int) - 1) (by omega) (by omega)
 cases e
 obtain ⟨ad', e, hx0⟩ := Kd.at_int hrp 0 (by omega) (by omega)
 cases e
 rw [show (0 : Int).toNat = 0 from rfl, Go.Addr.add_zero'] at hx0
 have L := hi ((path.length : Int) - 1) (by omega) (by omega)
 have F := hi 0 (by omega) (by omega)
 obtain ⟨adt, A1, c1, e, hxt, hl1, hi1⟩ := at_L1 HT.out (last path) L.1 L.2
 cases e
 obtain ⟨adr, e, hxr⟩ := Kd.at_int hi1 (rd path 0) F.1 (by rw [hq (last path) L.1 L.2]; exact F.2)
 cases e
 have hq1 : (rd_L1 t (last path)).length = t.length := hq _ L.1 L.2
 obtain ⟨lst, hlst⟩ : ∃ x, x = rd path ((path.length : Int) - 1) := ⟨_, rfl⟩
 have hlast : last path = lst := hlst.symm
 rw [hlast] at hxt hl1 hi1 hxr hq1
 rw [← hlst] at hx1 L
 rw [show ((path.length : Int) - 1).toNat = path.length - 1 from by omega] at hx1
 obtain ⟨L0, L1⟩ := L
 obtain ⟨F0, F1⟩ := F
 have F2 : rd path 0 < ((rd_L1 t lst).length : Int) := by rw [hq1]; exact F1
 have hf : Aside0 (ext t len 0 path = if 0 < rd (rd_L1 t lst) (rd path 0) then path else []) := ⟨by rw [ext, hlast]⟩
 have k1 : ((path.length : Int) == (len : Int)) = true := beq_iff_eq.2 (by omega)
 have k2 : (path.length == len) = true := beq_iff_eq.2 (by omega)
 have HH := sA (And.intro hlst (And.intro hl (And.intro hq1 hlast)))
 have HI := sA hi1
 have HR := sA hrp
 clear hs ht hq hrp hi hlst hl hq1 hlast hi1
 by_cases hg : 0 < rd (rd_L1 t lst) (rd path 0)
 · have hfin : Aside0 (ext t len 0 path = path) := ⟨by rw [hf.out, if_pos hg]⟩
   have hgb : decide (0 < rd (rd_L1 t lst) (rd path 0)) = true := decide_eq_true hg
   clear hg hf
   go_enter Try.func70, Try.ntmps70
   go_wp2
   repeat (go_quiet (fail); try go_wp2)
   go_ret
   refine ⟨.slice (some ad) path.length cv, ?_, ?_⟩
   · rw [hfin.out]
     cases path with
     | nil => simp at hn
     | cons x xs => rfl
   · rw [hfin.out]
     repeat (first | exact (by simpa using HS.out) | refine St.drewN ?_ _)
 · have hfin : Aside0 (ext t len 0 path = []) := ⟨by rw [hf.out, if_neg hg]⟩
   have hgb : decide (0 < rd (rd_L1 t lst) (rd path 0)) = false := decide_eq_false hg
   clear hg hf
   go_enter Try.func70, Try.ntmps70
   go_wp2
   repeat (go_quiet (fail); try go_wp2)
   go_ret
   refine ⟨.slice (some ad) path.length cv, ?_, ?_⟩
   · rw [hfin.out]
     rfl
   · rw [hfin.out]
     repeat (first | exact (by simpa using HS.out) | refine St.drewN ?_ _)
end Go.Proofs.Ytdljbmgknhbceaa.A
namespace Go.Proofs.Ytdljbmgknhbceaa.A
open Go.RowKit Go.Proofs.YtdljbmgknhbceaaW.PrintWords Go.Proofs.YtdljbmgknhbceaaW.PrintLast Go.Proofs.YtdljbmgknhbceaaW.PrintMore Go.Proofs.Ytdljbmgknhbceaa.Q
section
variable {w0 W w1 : World} {bp bl bt be : Nat} {T v v' : Value} {len : Int} {path path' : List Int}
theorem St.mid (h : St w0 W bp bl bt be T len v path) (hg : W.grownBy w1 v.ownBlock) :
 w1.frozen? ⟨bp, 0, none⟩ = false ∧ w1.cell? ⟨bp, 0, none⟩ = some v ∧ w1.cell? ⟨be, 0, none⟩ = some (.func (.func 70) #[] #[.pointer (some ⟨bp, 0, none⟩), .pointer (some ⟨bl, 0, none⟩), .pointer (some ⟨bt, 0, none⟩), .pointer (some ⟨be, 0, none⟩)]) ∧ be ≠ bp := by
 have hn := h.ne
 have kp : w1.heap[bp]? = some (.cells #[v] 31 (0, 0)) := (hg.block _ (lt_of_block h.p) hn.1).trans h.p
 have ke := (hg.block _ (lt_of_block h.e) hn.2.2.2).trans h.e
 exact ⟨free_of_one kp, cell_of_one kp, cell_of_one ke, blk_ne ke kp (by decide)⟩
theorem St.pop {A : Option Addr} {n c : Nat} {x : Int} (h : St w0 W bp bl bt be T len (.slice A n c) (path ++ [x])) : St w0 (W.setCell ⟨bp, 0, none⟩ (.slice A path.length c)) bp bl bt be T len (.slice A path.length c) path := by
 have ht := Kd.R_take (m := path.length) h.r (by simp)
 rw [List.take_left] at ht
 refine ⟨h.below.setCell h.hp _, one_setCell h.p, ?_, ?_, ?_, ?_, h.hp⟩
 · rw [Below.heap_setCell _ _ _ _ (blk_ne h.l h.p (by decide))]; exact h.l
 · rw [Below.heap_setCell _ _ _ _ (blk_ne h.t h.p (by decide))]; exact h.t
 · rw [Below.heap_setCell _ _ _ _ (blk_ne h.e h.p (by decide))]; exact h.e
 · exact Kd.R_set ht h.p (by decide) 0 _
end
theorem rd_left (path : List Int) (x i : Int) (i0 : 0 ≤ i) (h : i < path.length) : rd (path ++ [x]) i = rd path i := by
 simp only [rd, List.getD_eq_getElem?_getD]
 rw [List.getElem?_append_left (by omega)]
theorem rd_right (path : List Int) (x : Int) : rd (path ++ [x]) path.length = x := by
 simp [rd, List.getD_eq_getElem?_getD]
def step (t : List (List Int)) (len f : Nat) (path : List Int) (l : Int) (d : Int) : List Int :=
 if rd (rd_L1 t l) d = 0 ∨ path.contains d = true then [] else ext t len f (path ++ [d])
theorem firstOf_no (F : Int → List Int) (d : Int) (ds : List Int) (h : F d = []) : firstOf F (d :: ds) = firstOf F ds := by rw [firstOf, h]
theorem firstOf_yes (F : Int → List Int) (d : Int) (ds : List Int) (x : Int) (xs : List Int) (h : F d = x :: xs) : firstOf F (d :: ds) = x :: xs := by rw [firstOf, h]
set_option maxHeartbeats 2000000 in
set_option maxRecDepth 100000 in
theorem cyc_any (w0 : World) (A : Option Addr) (c : Nat) (t : List (List Int)) (ht : Kd.C (Kd.slice 3 (Kd.int .i64)) w0 A t.length t) (hq : Sq t) (hn100 : t.length ≤ 1000) (len : Nat) (hlen : len < 1000) (bp bl bt be : Nat) :
 ∀ (f : Nat) (path : List Int) (v : Value) (W : World), St w0 W bp bl bt be (.slice A t.length c) len v path → path.length + f = len → 0 < path.length → Ins t path →
 Calls Try.prog 70 #[.pointer (some ⟨bp, 0, none⟩), .pointer (some ⟨bl, 0, none⟩), .pointer (some ⟨bt, 0, none⟩), .pointer (some ⟨be, 0, none⟩)] W (After w0 bp bl bt be (.slice A t.length c) len path (ext t len f path)) := by
 intro f
 induction f with
 | zero => intro path v W hs hl hn hi; exact cyc_zero w0 A c t ht hq len bp bl bt be path v W hs (by omega) hn hi (by omega)
 | succ f ih =>
  intro path v W hs hl hn hi
  obtain ⟨Av, cv, rfl⟩ := Kd.R_slice hs.r
  have HTW := sA ht
  have HIH := sA ih
  have HQ := sA hq
  have hcp := hs.cp
  have hcl := hs.cl
  have hct := hs.ct
  have HS := sA hs
  have hrp := (Kd.R_reads' hs.r).2.2
  obtain ⟨ad, e, hx1⟩ := Kd.at_int hrp ((path.length : Int) - 1) (by omega) (by omega)
  cases e
  obtain ⟨ad', e, hx0⟩ := Kd.at_int hrp 0 (by omega) (by omega)
  cases e
  rw [show (0 : Int).toNat = 0 from rfl, Go.Addr.add_zero'] at hx0
  have L := hi ((path.length : Int) - 1) (by omega) (by omega)
  have F := hi 0 (by omega) (by omega)
  have HII := sA hi
  obtain ⟨lst, hlst⟩ : ∃ x, x = rd path ((path.length : Int) - 1) := ⟨_, rfl⟩
  have hlast : last path = lst := hlst.symm
  rw [← hlst] at hx1 L
  rw [show ((path.length : Int) - 1).toNat = path.length - 1 from by omega] at hx1
  obtain ⟨L0, L1⟩ := L
  obtain ⟨F0, F1⟩ := F
  have hf : Aside0 (ext t len (f + 1) path = firstOf (step t len f path lst) (upTo (rd path 0 + 1) t.length)) := ⟨by rw [ext, hlast]; rfl⟩
  have k1 : ((path.length : Int) == (len : Int)) = false := beq_eq_false_iff_ne.2 (by omega)
  have k2 : (path.length == len) = false := beq_eq_false_iff_ne.2 (by omega)
  have hq1 : Aside0 ((rd_L1 t lst).length = t.length) := ⟨hq _ L0 L1⟩
  have hpl : path.length < 1000 := by omega
  have HL := sA hl
  clear hs ht hq hrp hi hlst hl hlast ih
  go_enter Try.func70, Try.ntmps70
  go_wp2
  go_loopw [6] (fun d wr => ∃ (x : Int) (v' : Value), d = .int .i64 x ∧ Aside0 (0 ≤ x) ∧ Aside0 (ext t len (f + 1) path = firstOf (step t len f path lst) (upTo x t.length)) ∧ Aside0 (St w0 wr bp bl bt be (.slice A t.length c) len v' path)) (fun d _ => t.length - (intOf d).toNat)
  case atStart => exact ⟨rd path 0 + 1, .slice (some ad) path.length cv, rfl, ⟨by omega⟩, hf, HS⟩
  case round =>
   clear hcp hcl hct hx0 hx1 HS hf
   obtain ⟨x, v', rfl, ⟨x0⟩, hE, hS⟩ := hrel
   obtain ⟨Av, cv', rfl⟩ := Kd.R_slice hS.out.r
   have hcp := hS.out.cp
   have hct := hS.out.ct
   obtain ⟨adt, A1, c1, e, hxt, hl1, hi1⟩ := at_L1 (Kd.C_below HTW.out hS.out.below) lst L0 L1
   cases e
   have HI1 := sA hi1
   clear hl1
   by_cases hlt : x < t.length
   · have hlb : decide (x < (t.length : Int)) = true := decide_eq_true hlt
     have hup := sA (upTo_cons x t.length x0 hlt)
     obtain ⟨adr, e, hxr⟩ := Kd.at_int hi1 x x0 (by rw [hq1.out]; exact hlt)
     cases e
     have hx2 : x < ((rd_L1 t lst).length : Int) := by rw [hq1.out]; exact hlt
     clear hi1
     by_cases hz : rd (rd_L1 t lst) x = 0
     · have hzb : (rd (rd_L1 t lst) x == 0) = true := beq_iff_eq.2 hz
       have hno : Aside0 (step t len f path lst x = []) := ⟨by rw [step, if_pos (.inl hz)]⟩
       clear hz
       go_wp2
       go_roundw
       case rel => exact ⟨x + 1, _, by first | rfl | go_num, ⟨by omega⟩, ⟨by rw [hE.out, hup.out, firstOf_no _ _ _ hno.out]⟩, hS⟩
       case measure => simp [intOf]; omega
     · have hzb : (rd (rd_L1 t lst) x == 0) = false := beq_eq_false_iff_ne.2 hz
       have HRP := sA (Kd.R_reads' hS.out.r).2.2
       cases hcn : path.contains x with
       | true =>
        have hno : Aside0 (step t len f path lst x = []) := ⟨by rw [step, if_pos (.inr hcn)]⟩
        have hcn' := sA hcn
        clear hz hcn
        go_wp2_with (go_at_call 71; refine (contains_any _ _ _ _ _ HRP.out).mono ?_; rw [hcn'.out]; rintro e w' ⟨rfl, ⟨m2, rfl⟩⟩)
        go_roundw
        case rel => exact ⟨x + 1, _, by first | rfl | go_num, ⟨by omega⟩, ⟨by rw [hE.out, hup.out, firstOf_no _ _ _ hno.out]⟩, ⟨hS.out.drewN _⟩⟩
        case measure => simp [intOf]; omega
       | false =>
        have hst : Aside0 (step t len f path lst x = ext t len f (path ++ [x])) := ⟨by
          rw [step, if_neg]
          rintro (h | h)
          · exact hz h
          · rw [hcn] at h; cases h⟩
        have hcn' := sA hcn
        have hins : Aside0 (Ins t (path ++ [x])) := ⟨by
          intro i i0 i1
          rw [List.length_append] at i1
          by_cases hi2 : i < path.length
          · have := HII.out i i0 hi2
            have e : rd (path ++ [x]) i = rd path i := by
              exact rd_left path x i i0 hi2
            rwa [e]
          · have e : rd (path ++ [x]) i = x := by
              obtain rfl : i = path.length := by simp at i1; omega
              exact rd_right path x
            rw [e]
            exact ⟨x0, hlt⟩⟩
        have hbl : Aside0 (bl < wr.heap.size) := ⟨lt_of_block hS.out.l⟩
        have hbase : Aside0 (w0.heap.size ≤ wr.heap.size) := ⟨hS.out.below.size⟩
        clear hz hcn
        obtain ⟨r, hr⟩ : ∃ r, r = ext t len f (path ++ [x]) := ⟨_, rfl⟩
        have HR := sA hr
        clear hr
        cases r with
        | nil =>
         go_wp2_with (first
           | (go_at_call 71; refine (contains_any _ _ _ _ _ HRP.out).mono ?_; rw [hcn'.out]; rintro e w' ⟨rfl, ⟨m2, rfl⟩⟩)
           | ((with_reducible refine gate_builtin (b := .append) (xs := #[.tmp 50, .tmp 52]) rfl ?_); at_builtin; refine Kd.R_append (Kd.int .i64) (w0 := w0) w0.heap.size rfl (.tmp 50) (.tmp 52) 31 3 (.int .i64 0) 8 rfl Try.underlying31 info3 rfl (by decide) (by omega) (.slice Av path.length cv') path x [.int .i64 x] (fun k => k ≠ bl) (fun _ => False) rfl rfl ?aP (fun _ hk => hk.elim) ?aF ?aO ?aB ?aS ?aL ?_; (case aP => exact rfl); (case aB => exact pw_below_drewN hS.out.below _); (case aF => exact (fun k hk => by have := hbl.out; simp at hk; omega)); (case aO => exact Kd.R_drewN hS.out.r _); (case aS => exact (by have := hbase.out; simpa using this)); (case aL => omega); intro v1 w1 ho hb hg hat; obtain ⟨Ao, co, eo⟩ : ∃ A c, v1 = .slice A (path.length + 1) c := (by obtain ⟨A, c, e⟩ := Kd.R_slice ho; exact ⟨A, c, by rw [e]; simp⟩); subst eo; have hm := St.mid (hS.out.drewN _) hg; obtain ⟨m1, m2, m3, m4⟩ := hm; have hS1 := sA (St.grown (hS.out.drewN _) hg hb ho); clear ho hb hg hat)
           | (go_at_call 70; refine (HIH.out _ _ _ hS1.out (by have := HL.out; simp; omega) (by simp) hins.out).mono ?_; rw [← HR.out]; rintro e W2 ⟨v2, rfl, hS2⟩; replace hS2 : St w0 W2 bp bl bt be (.slice (some adt) t.length c) len v2 (path ++ [x]) := hS2; obtain ⟨A2, c2, e2⟩ : ∃ A c, v2 = .slice A (path.length + 1) c := (by obtain ⟨A, c, e⟩ := Kd.R_slice hS2.r; exact ⟨A, c, by rw [e]; simp⟩); subst e2; have hcp2 := hS2.cp; have hfp2 := hS2.fp; have hcap2 : path.length + 1 ≤ c2 := (Kd.R_reads' hS2.r).2.1; replace hS2 := sA hS2; clear hS1 m1 m2 m3 m4))
         go_roundw
         case rel => exact ⟨x + 1, _, by first | rfl | go_num, ⟨by omega⟩, ⟨by rw [hE.out, hup.out, firstOf_no _ _ _ (by rw [hst.out, ← HR.out])]⟩, ⟨St.pop hS2.out⟩⟩
         case measure => simp [intOf]; omega
        | cons y ys =>
         go_wp2_with (first
           | (go_at_call 71; refine (contains_any _ _ _ _ _ HRP.out).mono ?_; rw [hcn'.out]; rintro e w' ⟨rfl, ⟨m2, rfl⟩⟩)
           | ((with_reducible refine gate_builtin (b := .append) (xs := #[.tmp 50, .tmp 52]) rfl ?_); at_builtin; refine Kd.R_append (Kd.int .i64) (w0 := w0) w0.heap.size rfl (.tmp 50) (.tmp 52) 31 3 (.int .i64 0) 8 rfl Try.underlying31 info3 rfl (by decide) (by omega) (.slice Av path.length cv') path x [.int .i64 x] (fun k => k ≠ bl) (fun _ => False) rfl rfl ?aP (fun _ hk => hk.elim) ?aF ?aO ?aB ?aS ?aL ?_; (case aP => exact rfl); (case aB => exact pw_below_drewN hS.out.below _); (case aF => exact (fun k hk => by have := hbl.out; simp at hk; omega)); (case aO => exact Kd.R_drewN hS.out.r _); (case aS => exact (by have := hbase.out; simpa using this)); (case aL => omega); intro v1 w1 ho hb hg hat; obtain ⟨Ao, co, eo⟩ : ∃ A c, v1 = .slice A (path.length + 1) c := (by obtain ⟨A, c, e⟩ := Kd.R_slice ho; exact ⟨A, c, by rw [e]; simp⟩); subst eo; have hm := St.mid (hS.out.drewN _) hg; obtain ⟨m1, m2, m3, m4⟩ := hm; have hS1 := sA (St.grown (hS.out.drewN _) hg hb ho); clear ho hb hg hat)
           | (go_at_call 70; refine (HIH.out _ _ _ hS1.out (by have := HL.out; simp; omega) (by simp) hins.out).mono ?_; rw [← HR.out]; rintro e W2 ⟨v2, rfl, hS2⟩; replace hS2 : St w0 W2 bp bl bt be (.slice (some adt) t.length c) len v2 (y :: ys) := hS2; replace hS2 := sA hS2; clear hS1 m1 m2 m3 m4))
         go_ret
         have hfin : ext t len (f + 1) path = y :: ys := by rw [hE.out, hup.out, firstOf_yes _ _ _ _ _ (by rw [hst.out, ← HR.out])]
         exact ⟨_, by rw [hfin]; rfl, by rw [hfin]; exact hS2.out⟩
   · have hlb : decide (x < (t.length : Int)) = false := decide_eq_false hlt
     have hnil : Aside0 (ext t len (f + 1) path = []) := ⟨by rw [hE.out, upTo_end _ _ (by omega)]; rfl⟩
     go_wp2
     go_ret
     exact ⟨_, by rw [hnil.out]; rfl, by rw [hnil.out]; exact hS.out⟩
end Go.Proofs.Ytdljbmgknhbceaa.A
namespace Go.Proofs.Ytdljbmgknhbceaa.A
open Go.RowKit Go.Proofs.YtdljbmgknhbceaaW.PrintWords Go.Proofs.YtdljbmgknhbceaaW.PrintLast Go.Proofs.YtdljbmgknhbceaaW.PrintMore Go.Proofs.Ytdljbmgknhbceaa.Q
section
variable {w0 W w1 : World} {bp bl bt be : Nat} {T v v' : Value} {len : Int} {path path' : List Int}
theorem St.fresh (h : St w0 W bp bl bt be T len v path) (hg : W.grownBy w1 none) (hb : Below w0.heap.size w0 w1) (hr : Kd.R (Kd.int .i64) 3 w1 w0.heap.size (fun k => k ≠ bl) v' path') :
 St w0 (w1.setCell ⟨bp, 0, none⟩ v') bp bl bt be T len v' path' := by
 have kp : w1.heap[bp]? = some (.cells #[v] 31 (0, 0)) := (hg.block _ (lt_of_block h.p) (by simp)).trans h.p
 have kl : w1.heap[bl]? = some (.cells #[.int .i64 len] 3 (0, 0)) := (hg.block _ (lt_of_block h.l) (by simp)).trans h.l
 have kt := (hg.block _ (lt_of_block h.t) (by simp)).trans h.t
 have ke := (hg.block _ (lt_of_block h.e) (by simp)).trans h.e
 refine ⟨hb.setCell h.hp _, one_setCell kp, ?_, ?_, ?_, ?_, h.hp⟩
 · rw [Below.heap_setCell _ _ _ _ (blk_ne kl kp (by decide))]; exact kl
 · rw [Below.heap_setCell _ _ _ _ (blk_ne kt kp (by decide))]; exact kt
 · rw [Below.heap_setCell _ _ _ _ (blk_ne ke kp (by decide))]; exact ke
 · exact Kd.R_set hr kp (by decide) 0 _
theorem St.mid' (h : St w0 W bp bl bt be T len v path) (hg : W.grownBy w1 none) :
 w1.frozen? ⟨bp, 0, none⟩ = false ∧ w1.cell? ⟨bp, 0, none⟩ = some v ∧ w1.cell? ⟨be, 0, none⟩ = some (.func (.func 70) #[] #[.pointer (some ⟨bp, 0, none⟩), .pointer (some ⟨bl, 0, none⟩), .pointer (some ⟨bt, 0, none⟩), .pointer (some ⟨be, 0, none⟩)]) ∧ be ≠ bp := by
 have kp : w1.heap[bp]? = some (.cells #[v] 31 (0, 0)) := (hg.block _ (lt_of_block h.p) (by simp)).trans h.p
 have ke := (hg.block _ (lt_of_block h.e) (by simp)).trans h.e
 exact ⟨free_of_one kp, cell_of_one kp, cell_of_one ke, blk_ne ke kp (by decide)⟩
end
def cycleOf (t : List (List Int)) (len : Nat) : List Int := firstOf (fun d => ext t len (len - 1) [d]) (upTo 0 t.length)
theorem heap_at {w : World} (o : Obj) {k : Nat} (h : k = w.heap.size) : (w.alloc o).heap[k]? = some o := by
 subst h
 show (w.heap.push o)[w.heap.size]? = some o
 simp
theorem heap_old {w : World} (o : Obj) {k : Nat} (h : k < w.heap.size) : (w.alloc o).heap[k]? = w.heap[k]? := Below.heap_alloc w o k h
theorem St.init (w : World) (T : Value) (len : Int) :
 St w ((((w.alloc (.cells #[T] 22)).alloc (.cells #[.int .i64 len] 3)).alloc (.cells #[.slice none 0 0] 31)).alloc (.cells #[.func (.func 70) #[] #[.pointer (some ⟨w.heap.size + 1 + 1, 0, none⟩), .pointer (some ⟨w.heap.size + 1, 0, none⟩), .pointer (some ⟨w.heap.size, 0, none⟩), .pointer (some ⟨w.heap.size + 1 + 1 + 1, 0, none⟩)]] 25)) (w.heap.size + 1 + 1) (w.heap.size + 1) w.heap.size (w.heap.size + 1 + 1 + 1) T len (.slice none 0 0) [] := by
 have s1 : ∀ o, (w.alloc o).heap.size = w.heap.size + 1 := fun o => by simp
 have s2 : ∀ o o', ((w.alloc o).alloc o').heap.size = w.heap.size + 1 + 1 := fun o o' => by simp
 have s3 : ∀ o o' o'', (((w.alloc o).alloc o').alloc o'').heap.size = w.heap.size + 1 + 1 + 1 := fun o o' o'' => by simp
 refine ⟨?_, ?_, ?_, ?_, heap_at _ (by rw [s3]), Kd.R_nil _ _ _ _ _, by omega⟩
 · exact ((((Below.refl _ _).alloc (by omega) _).alloc (by rw [s1]; omega) _).alloc (by rw [s2]; omega) _).alloc (by rw [s3]; omega) _
 · rw [heap_old _ (by rw [s3]; omega)]; exact heap_at _ (by rw [s2])
 · rw [heap_old _ (by rw [s3]; omega), heap_old _ (by rw [s2]; omega)]; exact heap_at _ (by rw [s1])
 · rw [heap_old _ (by rw [s3]; omega), heap_old _ (by rw [s2]; omega), heap_old _ (by rw [s1]; omega)]; exact heap_at _ rfl
set_option maxHeartbeats 2000000 in
set_option maxRecDepth 100000 in
theorem cycle_any (A : Option Addr) (c : Nat) (t : List (List Int)) (w : World) (ht : Kd.C (Kd.slice 3 (Kd.int .i64)) w A t.length t) (hq : Sq t) (hn100 : t.length ≤ 1000) (len : Nat) (hlen : len < 1000) (hlen1 : 1 ≤ len) :
 Calls Try.prog 54 #[.slice A t.length c, .int .i64 len] w fun e w' => ∃ v : Value, e = .returned v ∧ Kd.R (Kd.int .i64) 3 w' w.heap.size (fun _ => True) v (cycleOf t len) ∧ (cycleOf t len = [] → v = .slice none 0 0) ∧ Below w.heap.size w w' := by
 have HT := sA ht
 have HQ := sA hq
 have HC := sA (cyc_any w A c t ht hq hn100 len hlen (w.heap.size + 1 + 1) (w.heap.size + 1) w.heap.size (w.heap.size + 1 + 1 + 1))
 have HI := sA (St.init w (.slice A t.length c) len)
 have hct := HI.out.ct
 clear ht hq
 go_enter Try.func54, Try.ntmps54
 go_wp2_with fail
 go_loopw [11] (fun d wr => ∃ (k : Nat) (v' : Value) (path : List Int), d = .int .i64 k ∧ Aside0 (k ≤ t.length) ∧ Aside0 (cycleOf t len = firstOf (fun d => ext t len (len - 1) [d]) (upTo k t.length)) ∧ Aside0 (St w wr (w.heap.size + 1 + 1) (w.heap.size + 1) w.heap.size (w.heap.size + 1 + 1 + 1) (.slice A t.length c) len v' path)) (fun d _ => t.length - (intOf d).toNat)
 case atStart => exact ⟨0, _, [], rfl, ⟨by omega⟩, ⟨rfl⟩, HI⟩
 case round =>
  clear HI hct
  obtain ⟨k, v', path, rfl, hk, hE, hS⟩ := hrel
  by_cases hlt : k < t.length
  · have hup := sA (upTo_cons (k : Int) t.length (by omega) (by omega))
    obtain ⟨r, hr⟩ : ∃ r, r = ext t len (len - 1) [(k : Int)] := ⟨_, rfl⟩
    have HR := sA hr
    have hbl : Aside0 (w.heap.size + 1 < wr.heap.size) := ⟨lt_of_block hS.out.l⟩
    have hins : Aside0 (Ins t [(k : Int)]) := ⟨by
      intro i i0 i1
      obtain rfl : i = 0 := by simp at i1; omega
      show 0 ≤ (k : Int) ∧ (k : Int) < t.length
      omega⟩
    clear hr
    cases r with
    | nil =>
     go_wp2_with (first
       | ((with_reducible refine gate_dst (N := 15) rfl ?_); refine Kd.R_lit (Kd.int .i64) (w0 := w) w.heap.size 3 ?hg (N := 15) ?hd (xs := [(k : Int)]) (inner := [.int .i64 (k : Int)]) (ok := fun q => q ≠ w.heap.size + 1) (okp := fun _ => False) ?hr ?hp (fun _ hk => hk.elim) ?hf hS.out.below hS.out.below.size (by simp) ?_; (case hd => rfl); (case hg => rfl); (case hr => first | (go_simp; done) | (go_simp; rfl)); (case hp => exact (Reps.one (show Kd.M (Kd.int .i64) _ _ _ (k : Int) [.int .i64 (k : Int)] from rfl) (Reps.none _ _))); (case hf => exact (by have := hbl.out; simp; omega)); intro v1 w1 ho hb hg _; obtain ⟨Ao, co, eo⟩ := Kd.R_slice ho; subst eo; have hm := St.mid' hS.out hg; obtain ⟨m1, m2, m3, m4⟩ := hm; have hS1 := sA (St.fresh hS.out hg hb ho); clear ho hb hg)
       | (go_at_call 70; refine (HC.out (len - 1) [(k : Int)] _ _ hS1.out (by simp; omega) (by simp) hins.out).mono ?_; rw [← HR.out]; rintro e W2 ⟨v2, rfl, hS2⟩; replace hS2 : St w W2 (w.heap.size + 1 + 1) (w.heap.size + 1) w.heap.size (w.heap.size + 1 + 1 + 1) (.slice A t.length c) len v2 [(k : Int)] := hS2; replace hS2 := sA hS2; clear hS1 m1 m2 m3 m4))
     go_roundw
     case rel => exact ⟨k + 1, _, _, by go_num, ⟨by omega⟩, ⟨by rw [hE.out, hup.out, firstOf_no _ _ _ HR.out.symm]; rfl⟩, hS2⟩
     case measure => simp [intOf]; omega
    | cons y ys =>
     go_wp2_with (first
       | ((with_reducible refine gate_dst (N := 15) rfl ?_); refine Kd.R_lit (Kd.int .i64) (w0 := w) w.heap.size 3 ?hg (N := 15) ?hd (xs := [(k : Int)]) (inner := [.int .i64 (k : Int)]) (ok := fun q => q ≠ w.heap.size + 1) (okp := fun _ => False) ?hr ?hp (fun _ hk => hk.elim) ?hf hS.out.below hS.out.below.size (by simp) ?_; (case hd => rfl); (case hg => rfl); (case hr => first | (go_simp; done) | (go_simp; rfl)); (case hp => exact (Reps.one (show Kd.M (Kd.int .i64) _ _ _ (k : Int) [.int .i64 (k : Int)] from rfl) (Reps.none _ _))); (case hf => exact (by have := hbl.out; simp; omega)); intro v1 w1 ho hb hg _; obtain ⟨Ao, co, eo⟩ := Kd.R_slice ho; subst eo; have hm := St.mid' hS.out hg; obtain ⟨m1, m2, m3, m4⟩ := hm; have hS1 := sA (St.fresh hS.out hg hb ho); clear ho hb hg)
       | (go_at_call 70; refine (HC.out (len - 1) [(k : Int)] _ _ hS1.out (by simp; omega) (by simp) hins.out).mono ?_; rw [← HR.out]; rintro e W2 ⟨v2, rfl, hS2⟩; replace hS2 : St w W2 (w.heap.size + 1 + 1) (w.heap.size + 1) w.heap.size (w.heap.size + 1 + 1 + 1) (.slice A t.length c) len v2 (y :: ys) := hS2; have hcp2 := hS2.cp; replace hS2 := sA hS2; clear hS1 m1 m2 m3 m4))
     go_ret
     have hfin : cycleOf t len = y :: ys := by rw [hE.out, hup.out, firstOf_yes _ _ _ _ _ HR.out.symm]
     exact ⟨_, rfl, by rw [hfin]; exact Kd.R_mono hS2.out.r (fun _ _ => trivial), by rw [hfin]; simp, hS2.out.below⟩
  · have hnil : Aside0 (cycleOf t len = []) := ⟨by rw [hE.out, upTo_end _ _ (by omega)]; rfl⟩
    go_wp2
    go_ret
    exact ⟨_, rfl, by rw [hnil.out]; exact Kd.R_nil _ _ _ _ _, fun _ => rfl, hS.out.below⟩
end Go.Proofs.Ytdljbmgknhbceaa.A
end
section
namespace Go.Proofs.Ytdljbmgknhbceaa.A
open Go.RowKit Go.Proofs.YtdljbmgknhbceaaW.PrintWords Go.Proofs.YtdljbmgknhbceaaW.PrintLast Go.Proofs.YtdljbmgknhbceaaW.PrintMore Go.Proofs.Ytdljbmgknhbceaa.Q
theorem cell_mid (w : World) (o1 : Obj) (n : Int) (o3 : Obj) : (((w.alloc o1).alloc (.cells #[.int .i64 n] 3)).alloc o3).cell? ⟨w.heap.size + 1, 0, none⟩ = some (.int .i64 n) := by
 refine cell_of_one (t := 3) ?_
 rw [heap_old _ (by simp)]
 exact heap_at _ (by simp)
def inI (n d : Int) : Bool := decide (0 ≤ d) && decide (d < n)
theorem inside61 (d n : Int) (b : Nat) (w : World) (hb : w.cell? ⟨b, 0, none⟩ = some (.int .i64 n)) :
 Calls Try.prog 61 #[.int .i64 d, .pointer (some ⟨b, 0, none⟩)] w fun e w' => e = .returned (.bool (inI n d)) ∧ w = w' := by
 by_cases h0 : 0 ≤ d
 · have h0b : decide (0 ≤ d) = true := by simpa using h0
   have hf : Aside0 (inI n d = decide (d < n)) := ⟨by simp [inI, h0]⟩
   go_enter Try.func61, Try.ntmps61
   go_wp2
   go_ret
   exact ⟨by rw [hf.out]; rfl, rfl⟩
 · have h0b : decide (0 ≤ d) = false := by simpa using h0
   have hf : Aside0 (inI n d = false) := ⟨by simp [inI, h0]⟩
   go_enter Try.func61, Try.ntmps61
   go_wp2
   go_ret
   exact ⟨by rw [hf.out]; rfl, rfl⟩
def moveOk (n f t o b : Int) : Bool := !(f == t) && (inI n f && (inI n t && (inI n o && (!(o == f) && (!(o == t) && (decide (1 ≤ b) && decide (b ≤ 1099511627776)))))))
theorem retb {x y : Bool} (h : x = y) : Ending.returned (.bool x) = Ending.returned (.bool y) := by rw [h]
set_option maxHeartbeats 4000000 in
set_option maxRecDepth 100000 in
theorem move_any (f t o b n : Int) (w : World) :
 Calls Try.prog 39 #[.agg #[.int .i64 f, .int .i64 t, .int .i64 o, .int .i64 b], .int .i64 n] w fun e w' => e = .returned (.bool (moveOk n f t o b)) ∧ Below w.heap.size w w' := by
 have hu29 := Try.underlying29
 by_cases k0 : f = t
 · have hf : Aside0 (moveOk n f t o b = false) := ⟨by simp [moveOk, k0]⟩
   subst k0
   go_enter Try.func39, Try.ntmps39
   go_wp2_with fail
   go_ret
   exact ⟨retb (by rw [hf.out]), by repeat (first | exact Below.refl _ _ | (refine Below.setCell ?_ (by simp <;> omega) _) | (refine Below.alloc ?_ (by simp <;> omega) _))⟩
 · have e0 : (f == t) = false := beq_eq_false_iff_ne.2 k0
   have e1 : (t == f) = false := beq_eq_false_iff_ne.2 (Ne.symm k0)
   by_cases k1 : 0 ≤ f ∧ f < n
   · have H1 := sA (show inI n f = true from by simp [inI, k1.1, k1.2])
     by_cases k2 : 0 ≤ t ∧ t < n
     · have H2 := sA (show inI n t = true from by simp [inI, k2.1, k2.2])
       by_cases k3 : 0 ≤ o ∧ o < n
       · have H3 := sA (show inI n o = true from by simp [inI, k3.1, k3.2])
         by_cases k4 : o = f
         · have e4 : (o != f) = false := bne_eq_false_iff_eq.2 k4
           have e4b : (o == f) = true := beq_iff_eq.2 k4
           have hf : Aside0 (moveOk n f t o b = false) := ⟨by simp [moveOk, k4]⟩
           clear k0 k1 k2 k3 k4
           go_enter Try.func39, Try.ntmps39
           go_wp2_with (first | (go_at_call_of 61 (Value.int IntKind.i64 f); refine (inside61 f n (w.heap.size + 1) _ (cell_mid w _ n _)).mono ?_; rw [show inI n f = true from H1.out]; rintro e w' ⟨rfl, rfl⟩) | (go_at_call_of 61 (Value.int IntKind.i64 t); refine (inside61 t n (w.heap.size + 1) _ (cell_mid w _ n _)).mono ?_; rw [show inI n t = true from H2.out]; rintro e w' ⟨rfl, rfl⟩) | (go_at_call_of 61 (Value.int IntKind.i64 o); refine (inside61 o n (w.heap.size + 1) _ (cell_mid w _ n _)).mono ?_; rw [show inI n o = true from H3.out]; rintro e w' ⟨rfl, rfl⟩))
           go_ret
           exact ⟨retb (by rw [hf.out]), by repeat (first | exact Below.refl _ _ | (refine Below.setCell ?_ (by simp <;> omega) _) | (refine Below.alloc ?_ (by simp <;> omega) _))⟩
         · have e4 : (o != f) = true := bne_iff_ne.2 k4
           have e4b : (o == f) = false := beq_eq_false_iff_ne.2 k4
           by_cases k5 : o = t
           · have e5 : (o != t) = false := bne_eq_false_iff_eq.2 k5
             have e5b : (o == t) = true := beq_iff_eq.2 k5
             have hf : Aside0 (moveOk n f t o b = false) := ⟨by simp [moveOk, k5]⟩
             clear k0 k1 k2 k3 k4 k5
             go_enter Try.func39, Try.ntmps39
             go_wp2_with (first | (go_at_call_of 61 (Value.int IntKind.i64 f); refine (inside61 f n (w.heap.size + 1) _ (cell_mid w _ n _)).mono ?_; rw [show inI n f = true from H1.out]; rintro e w' ⟨rfl, rfl⟩) | (go_at_call_of 61 (Value.int IntKind.i64 t); refine (inside61 t n (w.heap.size + 1) _ (cell_mid w _ n _)).mono ?_; rw [show inI n t = true from H2.out]; rintro e w' ⟨rfl, rfl⟩) | (go_at_call_of 61 (Value.int IntKind.i64 o); refine (inside61 o n (w.heap.size + 1) _ (cell_mid w _ n _)).mono ?_; rw [show inI n o = true from H3.out]; rintro e w' ⟨rfl, rfl⟩))
             go_ret
             exact ⟨retb (by rw [hf.out]), by repeat (first | exact Below.refl _ _ | (refine Below.setCell ?_ (by simp <;> omega) _) | (refine Below.alloc ?_ (by simp <;> omega) _))⟩
           · have e5 : (o != t) = true := bne_iff_ne.2 k5
             have e5b : (o == t) = false := beq_eq_false_iff_ne.2 k5
             by_cases k6 : 1 ≤ b
             · have e6 : decide (1 ≤ b) = true := decide_eq_true k6
               by_cases k7 : b ≤ 1099511627776
               · have e7 : decide (b ≤ 1099511627776) = true := decide_eq_true k7
                 have hf : Aside0 (moveOk n f t o b = true) := ⟨by simp [moveOk, inI, k0, k1.1, k1.2, k2.1, k2.2, k3.1, k3.2, k4, k5, k6, k7]⟩
                 clear k0 k1 k2 k3 k4 k5 k6 k7
                 go_enter Try.func39, Try.ntmps39
                 go_wp2_with (first | (go_at_call_of 61 (Value.int IntKind.i64 f); refine (inside61 f n (w.heap.size + 1) _ (cell_mid w _ n _)).mono ?_; rw [show inI n f = true from H1.out]; rintro e w' ⟨rfl, rfl⟩) | (go_at_call_of 61 (Value.int IntKind.i64 t); refine (inside61 t n (w.heap.size + 1) _ (cell_mid w _ n _)).mono ?_; rw [show inI n t = true from H2.out]; rintro e w' ⟨rfl, rfl⟩) | (go_at_call_of 61 (Value.int IntKind.i64 o); refine (inside61 o n (w.heap.size + 1) _ (cell_mid w _ n _)).mono ?_; rw [show inI n o = true from H3.out]; rintro e w' ⟨rfl, rfl⟩))
                 go_ret
                 exact ⟨retb (by rw [hf.out]), by repeat (first | exact Below.refl _ _ | (refine Below.setCell ?_ (by simp <;> omega) _) | (refine Below.alloc ?_ (by simp <;> omega) _))⟩
               · have e7 : decide (b ≤ 1099511627776) = false := decide_eq_false k7
                 have hf : Aside0 (moveOk n f t o b = false) := ⟨by simp [moveOk, e7]⟩
                 clear k0 k1 k2 k3 k4 k5 k6 k7
                 go_enter Try.func39, Try.ntmps39
                 go_wp2_with (first | (go_at_call_of 61 (Value.int IntKind.i64 f); refine (inside61 f n (w.heap.size + 1) _ (cell_mid w _ n _)).mono ?_; rw [show inI n f = true from H1.out]; rintro e w' ⟨rfl, rfl⟩) | (go_at_call_of 61 (Value.int IntKind.i64 t); refine (inside61 t n (w.heap.size + 1) _ (cell_mid w _ n _)).mono ?_; rw [show inI n t = true from H2.out]; rintro e w' ⟨rfl, rfl⟩) | (go_at_call_of 61 (Value.int IntKind.i64 o); refine (inside61 o n (w.heap.size + 1) _ (cell_mid w _ n _)).mono ?_; rw [show inI n o = true from H3.out]; rintro e w' ⟨rfl, rfl⟩))
                 go_ret
                 exact ⟨retb (by rw [hf.out]), by repeat (first | exact Below.refl _ _ | (refine Below.setCell ?_ (by simp <;> omega) _) | (refine Below.alloc ?_ (by simp <;> omega) _))⟩
             · have e6 : decide (1 ≤ b) = false := decide_eq_false k6
               have hf : Aside0 (moveOk n f t o b = false) := ⟨by simp [moveOk, e6]⟩
               clear k0 k1 k2 k3 k4 k5 k6
               go_enter Try.func39, Try.ntmps39
               go_wp2_with (first | (go_at_call_of 61 (Value.int IntKind.i64 f); refine (inside61 f n (w.heap.size + 1) _ (cell_mid w _ n _)).mono ?_; rw [show inI n f = true from H1.out]; rintro e w' ⟨rfl, rfl⟩) | (go_at_call_of 61 (Value.int IntKind.i64 t); refine (inside61 t n (w.heap.size + 1) _ (cell_mid w _ n _)).mono ?_; rw [show inI n t = true from H2.out]; rintro e w' ⟨rfl, rfl⟩) | (go_at_call_of 61 (Value.int IntKind.i64 o); refine (inside61 o n (w.heap.size + 1) _ (cell_mid w _ n _)).mono ?_; rw [show inI n o = true from H3.out]; rintro e w' ⟨rfl, rfl⟩))
               go_ret
               exact ⟨retb (by rw [hf.out]), by repeat (first | exact Below.refl _ _ | (refine Below.setCell ?_ (by simp <;> omega) _) | (refine Below.alloc ?_ (by simp <;> omega) _))⟩
       · have H3 := sA (show inI n o = false from by simp only [inI, Bool.and_eq_false_iff, decide_eq_false_iff_not]; omega)
         have hf : Aside0 (moveOk n f t o b = false) := ⟨by have h9 : inI n o = false := H3.out; simp [moveOk, h9]⟩
         clear k0 k1 k2 k3
         go_enter Try.func39, Try.ntmps39
         go_wp2_with (first | (go_at_call_of 61 (Value.int IntKind.i64 f); refine (inside61 f n (w.heap.size + 1) _ (cell_mid w _ n _)).mono ?_; rw [show inI n f = true from H1.out]; rintro e w' ⟨rfl, rfl⟩) | (go_at_call_of 61 (Value.int IntKind.i64 t); refine (inside61 t n (w.heap.size + 1) _ (cell_mid w _ n _)).mono ?_; rw [show inI n t = true from H2.out]; rintro e w' ⟨rfl, rfl⟩) | (go_at_call_of 61 (Value.int IntKind.i64 o); refine (inside61 o n (w.heap.size + 1) _ (cell_mid w _ n _)).mono ?_; rw [show inI n o = false from H3.out]; rintro e w' ⟨rfl, rfl⟩))
         go_ret
         exact ⟨retb (by rw [hf.out]), by repeat (first | exact Below.refl _ _ | (refine Below.setCell ?_ (by simp <;> omega) _) | (refine Below.alloc ?_ (by simp <;> omega) _))⟩
     · have H2 := sA (show inI n t = false from by simp only [inI, Bool.and_eq_false_iff, decide_eq_false_iff_not]; omega)
       have hf : Aside0 (moveOk n f t o b = false) := ⟨by have h9 : inI n t = false := H2.out; simp [moveOk, h9]⟩
       clear k0 k1 k2
       go_enter Try.func39, Try.ntmps39
       go_wp2_with (first | (go_at_call_of 61 (Value.int IntKind.i64 f); refine (inside61 f n (w.heap.size + 1) _ (cell_mid w _ n _)).mono ?_; rw [show inI n f = true from H1.out]; rintro e w' ⟨rfl, rfl⟩) | (go_at_call_of 61 (Value.int IntKind.i64 t); refine (inside61 t n (w.heap.size + 1) _ (cell_mid w _ n _)).mono ?_; rw [show inI n t = false from H2.out]; rintro e w' ⟨rfl, rfl⟩))
       go_ret
       exact ⟨retb (by rw [hf.out]), by repeat (first | exact Below.refl _ _ | (refine Below.setCell ?_ (by simp <;> omega) _) | (refine Below.alloc ?_ (by simp <;> omega) _))⟩
   · have H1 := sA (show inI n f = false from by simp only [inI, Bool.and_eq_false_iff, decide_eq_false_iff_not]; omega)
     have hf : Aside0 (moveOk n f t o b = false) := ⟨by have h9 : inI n f = false := H1.out; simp [moveOk, h9]⟩
     clear k0 k1
     go_enter Try.func39, Try.ntmps39
     go_wp2_with (first | (go_at_call_of 61 (Value.int IntKind.i64 f); refine (inside61 f n (w.heap.size + 1) _ (cell_mid w _ n _)).mono ?_; rw [show inI n f = false from H1.out]; rintro e w' ⟨rfl, rfl⟩))
     go_ret
     exact ⟨retb (by rw [hf.out]), by repeat (first | exact Below.refl _ _ | (refine Below.setCell ?_ (by simp <;> omega) _) | (refine Below.alloc ?_ (by simp <;> omega) _))⟩
end Go.Proofs.Ytdljbmgknhbceaa.A
namespace Go.Proofs.Ytdljbmgknhbceaa.A
open Go.RowKit Go.Proofs.YtdljbmgknhbceaaW.PrintWords Go.Proofs.YtdljbmgknhbceaaW.PrintLast Go.Proofs.YtdljbmgknhbceaaW.PrintMore Go.Proofs.Ytdljbmgknhbceaa.Q
def mvOk (n : Nat) (m : S29) : Bool := moveOk n m.f0 m.f1 m.f2 m.f3
theorem bad38 (m : S29) (bt : Nat) (A : Option Addr) (n c : Nat) (w : World) (hb : w.cell? ⟨bt, 0, none⟩ = some (.slice A n c)) :
 Calls Try.prog 38 #[.agg #[.int .i64 m.f0, .int .i64 m.f1, .int .i64 m.f2, .int .i64 m.f3], .pointer (some ⟨bt, 0, none⟩)] w fun e w' => e = .returned (.bool (!mvOk n m)) ∧ Below w.heap.size w w' := by
 have hbl : bt < w.heap.size := World.block_lt_of_cell? w _ hb
 have hbn : bt ≠ w.heap.size := by omega
 obtain ⟨a0, a1, a2, a3⟩ := m
 have hu29 := Try.underlying29
 have hf : Aside0 (mvOk n ⟨a0, a1, a2, a3⟩ = moveOk n a0 a1 a2 a3) := ⟨rfl⟩
 go_enter Try.func38, Try.ntmps38
 go_wp2_with (go_at_call 39; refine (move_any _ _ _ _ _ _).mono ?_; rintro e w' ⟨rfl, hbl⟩; have HB := sA hbl; clear hbl)
 go_ret
 exact ⟨by rw [hf.out]; rfl, ((Below.refl _ _).alloc (Nat.le_refl _) _).trans (HB.out.mono (by simp))⟩
def badMoveAt (n : Nat) : List S29 → Nat → Int
 | [], _ => -1
 | m :: ms, i => if mvOk n m then badMoveAt n ms (i + 1) else (i : Int)
def badMoves (n : Nat) (l : List S29) : Bool := l.any fun m => !mvOk n m
theorem badMoveAt_ge (n : Nat) (l : List S29) (i : Nat) : decide (0 ≤ badMoveAt n l i) = badMoves n l := by
 induction l generalizing i with
 | nil => rfl
 | cons x xs ih =>
  unfold badMoveAt badMoves
  cases h : mvOk n x with
  | true => simpa [badMoves, h] using ih (i + 1)
  | false => simp [h]
theorem badMoveAt_drop (n : Nat) (l : List S29) (k : Nat) (hk : k < l.length) : badMoveAt n (l.drop k) k = if mvOk n (rd_T29 l k) then badMoveAt n (l.drop (k + 1)) (k + 1) else (k : Int) := by
 rw [List.drop_eq_getElem_cons hk, badMoveAt]
 simp [rd_T29, List.getD_eq_getElem?_getD, List.getElem?_eq_getElem hk]
set_option maxHeartbeats 1000000 in
theorem index60 (A : Option Addr) (c : Nat) (l : List S29) (bt : Nat) (At : Option Addr) (n ct : Nat) (w : World) (hr : Kd.C k29 w A l.length l) (hb : w.cell? ⟨bt, 0, none⟩ = some (.slice At n ct)) :
 Calls Try.prog 60 #[.slice A l.length c, .func (.func 38) #[] #[.pointer (some ⟨bt, 0, none⟩)]] w fun e w' => e = .returned (.int .i64 (badMoveAt n l 0)) ∧ Below w.heap.size w w' := by
 have HR := sA hr
 have hm : l.length ≤ 9223372036854775807 := hr.2.1
 have hbl : bt < w.heap.size := World.block_lt_of_cell? w _ hb
 have HBT := sA hb
 have hu29 := Try.underlying29
 clear hr hb
 go_enter Try.func60, Try.ntmps60
 go_wp2
 go_loopw [8] (fun i w' => ∃ k : Nat, k ≤ l.length ∧ i = .int .i64 k ∧ Aside0 (badMoveAt n l 0 = badMoveAt n (l.drop k) k) ∧ Aside0 (Below w.heap.size w w')) (fun i _ => l.length - (intOf i).toNat)
 case atStart => exact ⟨0, by omega, rfl, ⟨rfl⟩, ⟨Below.refl _ _⟩⟩
 case round =>
  obtain ⟨k, hk, rfl, HE, HB⟩ := hrel
  by_cases hlt : k < l.length
  · obtain ⟨ad, e, hx0, hx1, hx2, hx3⟩ := at_T29 (Kd.C_below HR.out HB.out) k (by omega) (by omega)
    cases e
    rw [Int.toNat_natCast] at hx0 hx1 hx2 hx3
    have hs := sA (badMoveAt_drop n l k hlt)
    have hbt : wr.cell? ⟨bt, 0, none⟩ = some (.slice At n ct) := (HB.out.cell (p := ⟨bt, 0, none⟩) hbl).trans HBT.out
    cases hb : mvOk n (rd_T29 l k) with
    | true =>
     have hb' := sA hb
     clear hb
     go_wp2_with (go_at_call 38; refine (bad38 (rd_T29 l k) _ _ n _ _ hbt).mono ?_; rw [hb'.out]; rintro e w' ⟨rfl, hbb⟩; have HB2 := sA (below_step HB.out hbb); clear hbb)
     go_roundw
     case rel => exact ⟨k + 1, by omega, by go_num, ⟨by rw [HE.out, hs.out, if_pos hb'.out]⟩, HB2⟩
     case measure => simp [intOf]; omega
    | false =>
     have hb' := sA hb
     clear hb
     go_wp2_with (go_at_call 38; refine (bad38 (rd_T29 l k) _ _ n _ _ hbt).mono ?_; rw [hb'.out]; rintro e w' ⟨rfl, hbb⟩; have HB2 := sA (below_step HB.out hbb); clear hbb)
     go_ret
     exact ⟨by rw [HE.out, hs.out, if_neg (by rw [hb'.out]; simp)]; rfl, HB2.out⟩
  · have hd : Aside0 (badMoveAt n l 0 = -1) := ⟨by rw [HE.out, List.drop_of_length_le (by omega)]; rfl⟩
    go_wp2
    go_ret
    exact ⟨by rw [hd.out]; rfl, HB.out⟩
theorem contains37 (A : Option Addr) (c : Nat) (l : List S29) (bt : Nat) (At : Option Addr) (n ct : Nat) (w : World) (hr : Kd.C k29 w A l.length l) (hb : w.cell? ⟨bt, 0, none⟩ = some (.slice At n ct)) :
 Calls Try.prog 37 #[.slice A l.length c, .func (.func 38) #[] #[.pointer (some ⟨bt, 0, none⟩)]] w fun e w' => e = .returned (.bool (badMoves n l)) ∧ Below w.heap.size w w' := by
 have HR := sA hr
 have HBT := sA hb
 clear hr hb
 have hb := sA (badMoveAt_ge n l 0)
 go_enter Try.func37, Try.ntmps37
 go_wp2_with (go_at_call 60; refine (index60 _ _ _ _ _ n _ _ HR.out HBT.out).mono ?_; rintro e w' ⟨rfl, hbb⟩; have HB := sA hbb; clear hbb)
 go_ret
 exact ⟨by rw [← hb.out]; rfl, HB.out⟩
end Go.Proofs.Ytdljbmgknhbceaa.A
namespace Go.Proofs.Ytdljbmgknhbceaa.A
open Go.RowKit Go.Proofs.YtdljbmgknhbceaaW.PrintWords Go.Proofs.YtdljbmgknhbceaaW.PrintLast Go.Proofs.YtdljbmgknhbceaaW.PrintMore Go.Proofs.Ytdljbmgknhbceaa.Q
def upd (t : List (List Int)) (i j x : Int) : List (List Int) := t.set i.toNat ((rd_L1 t i).set j.toNat x)
def get (t : List (List Int)) (i j : Int) : Int := rd (rd_L1 t i) j
def mv (t : List (List Int)) (m : S29) : List (List Int) :=
 let t1 := upd t m.f0 m.f2 (wrap64 (get t m.f0 m.f2 - m.f3))
 upd t1 m.f1 m.f2 (wrap64 (get t1 m.f1 m.f2 + m.f3))
def applyGo (t : List (List Int)) : List S29 → List (List Int) × Int
 | [] => (t, 0)
 | m :: ms => if get t m.f0 m.f2 < m.f3 then ([], 6) else if 1099511627776 - m.f3 < get t m.f1 m.f2 then ([], 2) else applyGo (mv t m) ms
def applyOut (t : List (List Int)) (ms : List S29) : List (List Int) × Int :=
 if validT t = true ∧ badMoves t.length ms = false then applyGo t ms else ([], 1)
def Sqn (n : Nat) (t : List (List Int)) : Prop := t.length = n ∧ ∀ i : Int, 0 ≤ i → i < n → (rd_L1 t i).length = n
theorem Sqn.upd {n : Nat} {t : List (List Int)} (h : Sqn n t) (i j x : Int) : Sqn n (upd t i j x) := by
 refine ⟨by simp [A.upd, h.1], fun q q0 q1 => ?_⟩
 have hq := h.2 q q0 q1
 unfold A.upd rd_L1
 rw [List.getD_eq_getElem?_getD, List.getElem?_set]
 split
 · rename_i he
   have hl : i.toNat < t.length := by have := h.1; omega
   rw [if_pos hl]
   simp only [Option.getD_some, List.length_set]
   have : rd_L1 t i = rd_L1 t q := by unfold rd_L1; rw [he]
   rw [← hq, ← this]
   rfl
 · rw [← List.getD_eq_getElem?_getD]
   exact hq
theorem Sqn.mv {n : Nat} {t : List (List Int)} (h : Sqn n t) (m : S29) : Sqn n (mv t m) := (h.upd _ _ _).upd _ _ _
set_option maxHeartbeats 4000000 in
set_option maxRecDepth 100000 in
theorem Apply_any (A : Option Addr) (c : Nat) (t : List (List Int)) (A1 : Option Addr) (c1 : Nat) (ms : List S29) (w : World) (hr : Kd.C KT w A t.length t) (hr1 : Kd.C k29 w A1 ms.length ms) :
 Calls Try.prog 15 #[.slice A t.length c, .slice A1 ms.length c1] w fun e w' => ∃ v : Value, e = .returned (.tuple #[v, .int .i64 (applyOut t ms).2]) ∧ Kd.S KT 31 w' w.heap.size (fun _ => True) v (applyOut t ms).1 ∧ Below w.heap.size w w' := by
 have hb0 : Below w.heap.size w (w.alloc (.cells #[.slice A t.length c] 22)) := (Below.refl _ _).alloc (Nat.le_refl _) _
 have HR := sA (Kd.C_below hr hb0)
 have HR1 := sA (Kd.C_below hr1 hb0)
 have HRw := sA hr1
 have HB0 := sA hb0
 have hm : ms.length ≤ 9223372036854775807 := hr1.2.1
 have hu29 := Try.underlying29
 clear hr hr1 hb0
 cases hv : validT t with
 | false =>
  have hv' := sA hv
  have hf : Aside0 (applyOut t ms = ([], 1)) := ⟨by simp [applyOut, hv]⟩
  clear hv
  go_enter Try.func15, Try.ntmps15
  go_wp2_with (go_at_call 18; refine (valid_any _ _ _ _ HR.out).mono ?_; rw [hv'.out]; rintro e w' ⟨rfl, ⟨m, rfl⟩⟩)
  go_ret2
  exact ⟨_, by rw [hf.out]; rfl, by rw [hf.out]; exact Kd.S_nil _ _ _ _ _, pw_below_drewN HB0.out _⟩
 | true =>
  have hv' := sA hv
  cases hbm : badMoves t.length ms with
  | true =>
   have hbm' := sA hbm
   have hf : Aside0 (applyOut t ms = ([], 1)) := ⟨by simp [applyOut, hbm]⟩
   clear hv hbm
   go_enter Try.func15, Try.ntmps15
   go_wp2_with (first | (go_at_call 18; refine (valid_any _ _ _ _ HR.out).mono ?_; rw [hv'.out]; rintro e w' ⟨rfl, ⟨m, rfl⟩⟩) | (go_at_call 37; refine (contains37 _ _ _ w.heap.size A t.length c _ (Kd.C_drewN HR1.out _) (by simp)).mono ?_; rw [hbm'.out]; rintro e w1 ⟨rfl, hb⟩; have HB1 := sA ((pw_below_drewN HB0.out _).trans (hb.mono (by simp))); clear hb))
   go_ret2
   exact ⟨_, by rw [hf.out]; rfl, by rw [hf.out]; exact Kd.S_nil _ _ _ _ _, HB1.out⟩
  | false =>
   have hbm' := sA hbm
   have hf : Aside0 (applyOut t ms = applyGo t ms) := ⟨by simp [applyOut, hv, hbm]⟩
   have hok : Aside0 (∀ m ∈ ms, mvOk t.length m = true) := ⟨by simpa [badMoves] using hbm⟩
   have hn12 := (valid_sq hv).1
   have hrows := (valid_sq hv).2
   have hsq : Aside0 (Sqn t.length t) := ⟨rfl, fun i i0 i1 => rowlen hv i i0 i1⟩
   have HRW := sA hrows
   clear hv hbm hrows
   go_enter Try.func15, Try.ntmps15
   go_wp2_with (first | (go_at_call 18; refine (valid_any _ _ _ _ HR.out).mono ?_; rw [hv'.out]; rintro e w' ⟨rfl, ⟨m, rfl⟩⟩) | (go_at_call 37; refine (contains37 _ _ _ w.heap.size A t.length c _ (Kd.C_drewN HR1.out _) (by simp)).mono ?_; rw [hbm'.out]; rintro e w1 ⟨rfl, hb⟩; have hbx : w1.cell? ⟨w.heap.size, 0, none⟩ = some (.slice A t.length c) := (hb.cell (p := ⟨w.heap.size, 0, none⟩) (by simp)).trans (by simp); have HC1 := sA (Kd.C_below (Kd.C_drewN HR.out _) hb); have HC2 := sA (Kd.C_below (Kd.C_drewN HR1.out _) hb); have HB1 := sA ((pw_below_drewN HB0.out _).trans (hb.mono (by simp))); clear hb) | (go_at_call 40; refine (copied_any _ _ _ _ HC1.out (by omega) (fun r hr => by rw [(HRW.out r hr).1]; omega)).mono ?_; rintro e w2 ⟨v2, rfl, hS, hb⟩; obtain ⟨A6, c6, e6⟩ := Kd.S_slice hS; subst e6; have HC3 := sA (Kd.C_below HC2.out hb); have HS := sA (Kd.S_lower hS HB1.out.size); have HB2 := sA (below_step HB1.out hb); clear hS hb HC1 HC2 hbx))
   go_loopw [21] (fun i wr => ∃ (k : Nat) (T : List (List Int)), k ≤ ms.length ∧ i = .int .i64 k ∧ Aside0 (applyGo t ms = applyGo T (ms.drop k)) ∧ Aside0 (Kd.S KT 31 wr w.heap.size (fun _ => True) (.slice A6 t.length c6) T) ∧ Aside0 (Sqn t.length T) ∧ Aside0 (Below w.heap.size w wr)) (fun i _ => ms.length - (intOf i).toNat)
   case atStart => exact ⟨0, t, by omega, rfl, ⟨rfl⟩, HS, hsq, HB2⟩
   case round =>
    clear HC3 HS HB2 HB1
    obtain ⟨k, T, hk, rfl, HE, HO, HQ, HB⟩ := hrel
    by_cases hlt : k < ms.length
    · obtain ⟨ad, e, hx0, hx1, hx2, hx3⟩ := at_T29 (Kd.C_below HRw.out HB.out) k (by omega) (by omega)
      cases e
      rw [Int.toNat_natCast] at hx0 hx1 hx2 hx3
      have hmem : rd_T29 ms k ∈ ms := by
       unfold rd_T29
       rw [Int.toNat_natCast, List.getD_eq_getElem?_getD, List.getElem?_eq_getElem hlt]
       exact List.getElem_mem hlt
      have hmv := hok.out _ hmem
      have hdrop : ms.drop k = rd_T29 ms k :: ms.drop (k + 1) := by
       rw [List.drop_eq_getElem_cons hlt]
       simp [rd_T29, List.getD_eq_getElem?_getD, List.getElem?_eq_getElem hlt]
      obtain ⟨m, hm9⟩ : ∃ m, m = rd_T29 ms k := ⟨_, rfl⟩
      rw [← hm9] at hx0 hx1 hx2 hx3 hmv hdrop
      have HD := sA hdrop
      clear hmem hdrop hm9
      obtain ⟨a0, a1, a2, a3⟩ := m
      simp only at hx0 hx1 hx2 hx3
      simp only [mvOk, moveOk, inI, Bool.and_eq_true, decide_eq_true_eq, Bool.not_eq_true', beq_eq_false_iff_ne] at hmv
      obtain ⟨n01, ⟨p0, q0⟩, ⟨p1, q1⟩, ⟨p2, q2⟩, n20, n21, b1, b2⟩ := hmv
      have HT := sA (Kd.S_alloc HO.out (.cells #[.int .i64 a0, .int .i64 a1, .int .i64 a2, .int .i64 a3] 29))
      have l0 : a2 < ((rd_L1 T a0).length : Int) := by rw [HQ.out.2 a0 p0 q0]; exact q2
      have l1 : a2 < ((rd_L1 T a1).length : Int) := by rw [HQ.out.2 a1 p1 q1]; exact q2
      have hA6 : ∃ x, A6 = some x := by
       obtain ⟨A', c', e, hle, hC⟩ := Kd.S_reads HO.out
       injection e with e1 e2 e3
       obtain ⟨ad', _, _, e9, _⟩ := at_L1 hC a0 p0 (by rw [HQ.out.1]; exact q0)
       exact ⟨ad', by rw [e1, e9]⟩
      obtain ⟨A6, rfl⟩ := hA6
      obtain ⟨g0, d0, s0, s1, _, _, _, _⟩ := tab_at HT.out a0 a2 p0 (by rw [HQ.out.1]; exact q0) p2 l0
      obtain ⟨g1, d1, r0, r1, _, _, _, _⟩ := tab_at HT.out a1 a2 p1 (by rw [HQ.out.1]; exact q1) p2 l1
      by_cases ht1 : get T a0 a2 < a3
      · have hb1 : decide (rd (rd_L1 T a0) a2 < a3) = true := decide_eq_true ht1
        have hfin : Aside0 (applyGo t ms = ([], 6)) := ⟨by rw [HE.out, HD.out, applyGo, if_pos ht1]⟩
        clear ht1
        go_wp2
        repeat (go_quiet (fail); try go_wp2)
        go_ret2
        exact ⟨_, by rw [hf.out, hfin.out]; rfl, by rw [hf.out, hfin.out]; exact Kd.S_nil _ _ _ _ _, by repeat (first | exact HB.out | apply pw_below_drewN | (refine Below.alloc ?_ (by have := HB.out.size; simpa using this) _))⟩
      · have hb1 : decide (rd (rd_L1 T a0) a2 < a3) = false := decide_eq_false ht1
        by_cases ht2 : 1099511627776 - a3 < get T a1 a2
        · have hb2 : decide (1099511627776 - a3 < rd (rd_L1 T a1) a2) = true := decide_eq_true ht2
          have hfin : Aside0 (applyGo t ms = ([], 2)) := ⟨by rw [HE.out, HD.out, applyGo, if_neg ht1, if_pos ht2]⟩
          clear ht1 ht2
          go_wp2
          go_quiet (fail)
          go_wp2
          have hwr : IntKind.i64.wrap (1099511627776 - a3) = 1099511627776 - a3 := IntWalk.i64_in _ (by omega)
          go_quiet (fail)
          clear hwr
          go_wp2
          go_ret2
          exact ⟨_, by rw [hf.out, hfin.out]; rfl, by rw [hf.out, hfin.out]; exact Kd.S_nil _ _ _ _ _, by repeat (first | exact HB.out | apply pw_below_drewN | (refine Below.alloc ?_ (by have := HB.out.size; simpa using this) _))⟩
        · have hb2 : decide (1099511627776 - a3 < rd (rd_L1 T a1) a2) = false := decide_eq_false ht2
          have hgo : Aside0 (applyGo t ms = applyGo (mv T ⟨a0, a1, a2, a3⟩) (ms.drop (k + 1))) := ⟨by rw [HE.out, HD.out, applyGo, if_neg ht1, if_neg ht2]⟩
          clear ht1 ht2
          go_wp2
          generalize hW2 : wr.alloc (.cells #[.int .i64 a0, .int .i64 a1, .int .i64 a2, .int .i64 a3] 29) = W2 at HT s0 s1 r0 r1 ⊢
          have BM := sA (show W2.heap[wr.heap.size]? = some (.cells #[.int .i64 a0, .int .i64 a1, .int .i64 a2, .int .i64 a3] 29 (0, 0)) from by rw [← hW2]; exact heap_at _ rfl)
          have HB2 := sA (show Below w.heap.size w W2 from by rw [← hW2]; exact HB.out.alloc HB.out.size _)
          have hbm2 : Aside0 (w.heap.size ≤ wr.heap.size) := ⟨HB.out.size⟩
          generalize wr.heap.size = bm at BM hbm2 ⊢
          clear hW2 hx0 hx1 hx2 hx3 HO HB
          have m0 : W2.cell? ⟨bm, 0, none⟩ = some (.int .i64 a0) := by simp [World.cell?, BM.out]
          have m1 : W2.cell? ⟨bm, 1, none⟩ = some (.int .i64 a1) := by simp [World.cell?, BM.out]
          have m2 : W2.cell? ⟨bm, 2, none⟩ = some (.int .i64 a2) := by simp [World.cell?, BM.out]
          have m3 : W2.cell? ⟨bm, 3, none⟩ = some (.int .i64 a3) := by simp [World.cell?, BM.out]
          go_quiet (fail)
          go_wp2
          have hwr : IntKind.i64.wrap (1099511627776 - a3) = 1099511627776 - a3 := IntWalk.i64_in _ (by omega)
          refine wp_region_quiet_lit (by kernel_rfl) (by kernel_rfl) ?_
          repeat (quiet_step (fail))
          refine wpQuiet_nil ?_
          intro W4 hw4
          have HT5 := sA (show Kd.S KT 31 W4.drew w.heap.size (fun _ => True) (.slice (some A6) t.length c6) T from by obtain ⟨n, rfl⟩ := hw4; exact Kd.S_drew (Kd.S_drewN (Kd.S_drewN HT.out _) _))
          have BM5 := sA (show W4.drew.heap[bm]? = some (.cells #[.int .i64 a0, .int .i64 a1, .int .i64 a2, .int .i64 a3] 29 (0, 0)) from by obtain ⟨n, rfl⟩ := hw4; exact BM.out)
          have HB5 := sA (show Below w.heap.size w W4.drew from by obtain ⟨n, rfl⟩ := hw4; exact below_drew (pw_below_drewN (pw_below_drewN HB2.out _) _))
          clear hwr hw4 m0 m1 m2 m3 HT s0 s1 r0 r1 BM HB2
          go_wp2
          refine wp_region_still_tail 13 (by kernel_rfl) (by kernel_rfl) ?_
          change wpStill _ _ W4.drew (fun a' => wpList _ _ _ _ a' W4.drew) _ _
          generalize W4.drew = W5 at HT5 BM5 HB5 ⊢
          have m0 : W5.cell? ⟨bm, 0, none⟩ = some (.int .i64 a0) := by simp [World.cell?, BM5.out]
          have m2 : W5.cell? ⟨bm, 2, none⟩ = some (.int .i64 a2) := by simp [World.cell?, BM5.out]
          have m3 : W5.cell? ⟨bm, 3, none⟩ = some (.int .i64 a3) := by simp [World.cell?, BM5.out]
          obtain ⟨g, d, s0, s1, s2, s3, ⟨_, gc, s4⟩, s5⟩ := tab_at HT5.out a0 a2 p0 (by rw [HQ.out.1]; exact q0) p2 l0
          have S4 := sA s4
          have S5 := sA s5
          clear s4 s5
          simp only [List.take_succ_cons, List.take_zero, List.drop_succ_cons, List.drop_zero]
          repeat still_step
          refine wpStill_nil ?_
          go_wp2
          have HT6 := sA (show Kd.S KT 31 (W5.setCell ⟨g, a2.toNat, none⟩ (.int .i64 (wrap64 (rd (rd_L1 T a0) a2 - a3)))).drew w.heap.size (fun _ => True) (.slice (some A6) t.length c6) (upd T a0 a2 (wrap64 (get T a0 a2 - a3))) from Kd.S_drew (S5.out _).1)
          have BM6 := sA (show (W5.setCell ⟨g, a2.toNat, none⟩ (.int .i64 (wrap64 (rd (rd_L1 T a0) a2 - a3)))).drew.heap[bm]? = some (.cells #[.int .i64 a0, .int .i64 a1, .int .i64 a2, .int .i64 a3] 29 (0, 0)) from by
            show (W5.setCell ⟨g, a2.toNat, none⟩ (.int .i64 (wrap64 (rd (rd_L1 T a0) a2 - a3)))).heap[bm]? = _
            rw [Below.heap_setCell _ _ _ _ (blk_ne BM5.out S4.out (by decide))]
            exact BM5.out)
          have HB6 := sA (show Below w.heap.size w (W5.setCell ⟨g, a2.toNat, none⟩ (.int .i64 (wrap64 (rd (rd_L1 T a0) a2 - a3)))).drew from below_drew (HB5.out.setCell s3 _))
          obtain ⟨T1, hT1⟩ : ∃ T1, T1 = upd T a0 a2 (wrap64 (get T a0 a2 - a3)) := ⟨_, rfl⟩
          have HQ1 := sA (show Sqn t.length T1 from by rw [hT1]; exact HQ.out.upd _ _ _)
          have hmvv : Aside0 (upd T1 a1 a2 (wrap64 (get T1 a1 a2 + a3)) = mv T ⟨a0, a1, a2, a3⟩) := ⟨by rw [hT1]; rfl⟩
          rw [← hT1] at HT6
          refine wp_region_still_tail 13 (by kernel_rfl) (by kernel_rfl) ?_
          change wpStill _ _ (W5.setCell ⟨g, a2.toNat, none⟩ (.int .i64 (wrap64 (rd (rd_L1 T a0) a2 - a3)))).drew (fun a' => wpList _ _ _ _ a' (W5.setCell ⟨g, a2.toNat, none⟩ (.int .i64 (wrap64 (rd (rd_L1 T a0) a2 - a3)))).drew) _ _
          generalize (W5.setCell ⟨g, a2.toNat, none⟩ (.int .i64 (wrap64 (rd (rd_L1 T a0) a2 - a3)))).drew = W6 at HT6 BM6 HB6 ⊢
          clear m0 m2 m3 s0 s1 s2 S4 S5 hT1 HT5 BM5 HB5
          have m0 : W6.cell? ⟨bm, 1, none⟩ = some (.int .i64 a1) := by simp [World.cell?, BM6.out]
          have m2 : W6.cell? ⟨bm, 2, none⟩ = some (.int .i64 a2) := by simp [World.cell?, BM6.out]
          have m3 : W6.cell? ⟨bm, 3, none⟩ = some (.int .i64 a3) := by simp [World.cell?, BM6.out]
          have l2 : a2 < ((rd_L1 T1 a1).length : Int) := by rw [HQ1.out.2 a1 p1 q1]; exact q2
          obtain ⟨h, d2, s0, s1, s2, s4, _, s5⟩ := tab_at HT6.out a1 a2 p1 (by rw [HQ1.out.1]; exact q1) p2 l2
          have S5 := sA s5
          clear s5
          simp only [List.take_succ_cons, List.take_zero, List.drop_succ_cons, List.drop_zero]
          repeat still_step
          refine wpStill_nil ?_
          go_wp2
          go_roundw
          case rel => exact ⟨k + 1, mv T ⟨a0, a1, a2, a3⟩, by omega, by go_num, hgo, ⟨by rw [← hmvv.out]; exact (S5.out _).1⟩, ⟨HQ.out.mv _⟩, ⟨HB6.out.setCell s4 _⟩⟩
          case measure => simp [intOf]; omega
    · have hfin : Aside0 (applyGo t ms = (T, 0)) := ⟨by rw [HE.out, List.drop_of_length_le (by omega)]; rfl⟩
      go_wp2
      go_ret2
      exact ⟨_, by rw [hf.out, hfin.out]; rfl, by rw [hf.out, hfin.out]; exact HO.out, HB.out⟩
end Go.Proofs.Ytdljbmgknhbceaa.A
end
section
namespace Go.Proofs.Ytdljbmgknhbceaa.A
open Go.RowKit Go.Proofs.YtdljbmgknhbceaaW.PrintWords Go.Proofs.YtdljbmgknhbceaaW.PrintLast Go.Proofs.YtdljbmgknhbceaaW.PrintMore Go.Proofs.Ytdljbmgknhbceaa.Q
theorem rd_set (l : List Int) (i j x : Int) (i0 : 0 ≤ i) (i1 : i < l.length) (j0 : 0 ≤ j) : rd (l.set i.toNat x) j = if j = i then x else rd l j := by
 unfold rd
 rw [List.getD_eq_getElem?_getD, List.getElem?_set]
 by_cases h : j = i
 · subst h; simp [show j.toNat < l.length by omega]
 · rw [if_neg (by omega), if_neg h, List.getD_eq_getElem?_getD]
theorem rdL_set (t : List (List Int)) (i j : Int) (r : List Int) (i0 : 0 ≤ i) (i1 : i < t.length) (j0 : 0 ≤ j) : rd_L1 (t.set i.toNat r) j = if j = i then r else rd_L1 t j := by
 unfold rd_L1
 rw [List.getD_eq_getElem?_getD, List.getElem?_set]
 by_cases h : j = i
 · subst h; simp [show j.toNat < t.length by omega]
 · rw [if_neg (by omega), if_neg h, List.getD_eq_getElem?_getD]
theorem get_upd {n : Nat} {t : List (List Int)} (h : Sqn n t) (i j x a b : Int) (i0 : 0 ≤ i) (i1 : i < n) (j0 : 0 ≤ j) (j1 : j < n) (a0 : 0 ≤ a) (b0 : 0 ≤ b) :
 get (upd t i j x) a b = if a = i ∧ b = j then x else get t a b := by
 unfold get upd
 rw [rdL_set t i a _ i0 (by rw [h.1]; exact i1) a0]
 by_cases ha : a = i
 · subst ha
   rw [if_pos rfl, rd_set _ j b x j0 (by rw [h.2 a a0 i1]; exact j1) b0]
   by_cases hb : b = j
   · simp [hb]
   · simp [hb]
 · simp [ha]
def Good (n : Nat) (t : List (List Int)) : Prop := Sqn n t ∧ ∀ i j : Int, 0 ≤ i → i < n → 0 ≤ j → j < n → 0 ≤ get t i j ∧ get t i j ≤ 1099511627776
theorem wrap_small {x : Int} (h0 : -1099511627776 ≤ x) (h1 : x ≤ 1099511627776) : wrap64 x = x := by unfold wrap64; omega
def rowSum : List Int → Nat
 | [] => 0
 | x :: xs => x.toNat + rowSum xs
def phi : List (List Int) → Nat
 | [] => 0
 | r :: rs => rowSum r + phi rs
theorem rowSum_set (l : List Int) (j : Nat) (x : Int) (h : j < l.length) : rowSum (l.set j x) + (l[j]).toNat = rowSum l + x.toNat := by
 induction l generalizing j with
 | nil => simp at h
 | cons y ys ih =>
  cases j with
  | zero => simp [rowSum]; omega
  | succ j =>
   simp only [List.set_cons_succ, rowSum, List.getElem_cons_succ]
   have := ih j (by simpa using h)
   omega
theorem phi_set (t : List (List Int)) (i : Nat) (r : List Int) (h : i < t.length) : phi (t.set i r) + rowSum t[i] = phi t + rowSum r := by
 induction t generalizing i with
 | nil => simp at h
 | cons y ys ih =>
  cases i with
  | zero => simp [phi]; omega
  | succ j =>
   simp only [List.set_cons_succ, phi, List.getElem_cons_succ]
   have := ih j (by simpa using h)
   omega
theorem phi_upd {n : Nat} {t : List (List Int)} (h : Sqn n t) (i j x : Int) (i0 : 0 ≤ i) (i1 : i < n) (j0 : 0 ≤ j) (j1 : j < n) : phi (upd t i j x) + (get t i j).toNat = phi t + x.toNat := by
 have hi : i.toNat < t.length := by rw [h.1]; omega
 have he : rd_L1 t i = t[i.toNat] := by simp [rd_L1, List.getD_eq_getElem?_getD, List.getElem?_eq_getElem hi]
 have hj : j.toNat < (t[i.toNat]).length := by rw [← he, h.2 i i0 i1]; omega
 have hg : get t i j = (t[i.toNat])[j.toNat] := by
  unfold get
  rw [he]
  simp [rd, List.getD_eq_getElem?_getD, List.getElem?_eq_getElem hj]
 have h1 := phi_set t i.toNat ((t[i.toNat]).set j.toNat x) hi
 have h2 := rowSum_set (t[i.toNat]) j.toNat x hj
 unfold upd
 rw [he, hg]
 omega
theorem firstOf_mem (F : Int → List Int) (ds : List Int) (h : firstOf F ds ≠ []) : ∃ d ∈ ds, firstOf F ds = F d ∧ F d ≠ [] := by
 induction ds with
 | nil => exact absurd rfl h
 | cons d ds ih =>
  cases hd : F d with
  | nil =>
   rw [firstOf_no F d ds hd] at h ⊢
   obtain ⟨e, he, h1, h2⟩ := ih h
   exact ⟨e, List.mem_cons_of_mem _ he, h1, h2⟩
  | cons x xs =>
   rw [firstOf_yes F d ds x xs hd]
   exact ⟨d, List.mem_cons_self, hd.symm, by rw [hd]; simp⟩
theorem mem_upTo (a : Int) (n : Nat) (d : Int) (a0 : 0 ≤ a) : d ∈ upTo a n ↔ a ≤ d ∧ d < n := by
 unfold upTo
 simp only [List.mem_map, List.mem_range]
 constructor
 · rintro ⟨i, hi, rfl⟩; omega
 · rintro ⟨h1, h2⟩; exact ⟨(d - a).toNat, by omega, by omega⟩
structure Path (n : Nat) (t : List (List Int)) (c : List Int) : Prop where
 ins : ∀ i : Int, 0 ≤ i → i < c.length → 0 ≤ rd c i ∧ rd c i < n
 dif : ∀ i j : Int, 0 ≤ i → i < c.length → 0 ≤ j → j < c.length → rd c i = rd c j → i = j
 edge : ∀ i : Int, 0 ≤ i → i + 1 < c.length → 0 < get t (rd c i) (rd c (i + 1))
theorem contains_rd (c : List Int) (x : Int) : c.contains x = true ↔ ∃ i : Int, 0 ≤ i ∧ i < c.length ∧ rd c i = x := by
 rw [List.contains_iff_mem, List.mem_iff_getElem]
 constructor
 · rintro ⟨i, hi, rfl⟩
   exact ⟨i, by omega, by omega, by simp [rd, List.getD_eq_getElem?_getD, List.getElem?_eq_getElem hi]⟩
 · rintro ⟨i, i0, i1, rfl⟩
   exact ⟨i.toNat, by omega, by simp [rd, List.getD_eq_getElem?_getD, List.getElem?_eq_getElem (show i.toNat < c.length by omega)]⟩
theorem Path.snoc {n : Nat} {t : List (List Int)} {c : List Int} (h : Path n t c) (hc : 0 < c.length) (d : Int) (d0 : 0 ≤ d) (d1 : d < n) (hn : c.contains d = false) (he : 0 < get t (rd c ((c.length : Int) - 1)) d) : Path n t (c ++ [d]) := by
 have hl : (c ++ [d]).length = c.length + 1 := by simp
 have hnot : ∀ i : Int, 0 ≤ i → i < c.length → rd c i ≠ d := by
  intro i i0 i1 e
  have : c.contains d = true := (contains_rd c d).2 ⟨i, i0, i1, e⟩
  rw [hn] at this; cases this
 have hr : ∀ i : Int, 0 ≤ i → i < c.length → rd (c ++ [d]) i = rd c i := fun i i0 i1 => rd_left c d i i0 i1
 have hd : rd (c ++ [d]) c.length = d := rd_right c d
 refine ⟨fun i i0 i1 => ?_, fun i j i0 i1 j0 j1 e => ?_, fun i i0 i1 => ?_⟩
 · rw [hl] at i1
   by_cases hi : i < c.length
   · rw [hr i i0 hi]; exact h.ins i i0 hi
   · obtain rfl : i = c.length := by omega
     rw [hd]; exact ⟨d0, d1⟩
 · rw [hl] at i1 j1
   by_cases hi : i < c.length
   · rw [hr i i0 hi] at e
     by_cases hj : j < c.length
     · rw [hr j j0 hj] at e; exact h.dif i j i0 hi j0 hj e
     · obtain rfl : j = c.length := by omega
       rw [hd] at e; exact absurd e (hnot i i0 hi)
   · obtain rfl : i = c.length := by omega
     by_cases hj : j < c.length
     · rw [hr j j0 hj, hd] at e; exact absurd e.symm (hnot j j0 hj)
     · omega
 · rw [hl] at i1
   rw [hr i i0 (by omega)]
   by_cases hi : i + 1 < c.length
   · rw [hr (i + 1) (by omega) hi]; exact h.edge i i0 hi
   · have : i + 1 = c.length := by omega
     rw [this, hd]
     rw [show i = (c.length : Int) - 1 from by omega]
     exact he
theorem ext_path {n : Nat} {t : List (List Int)} (hg : Good n t) (len : Nat) : ∀ (f : Nat) (p : List Int), p.length + f = len → 0 < p.length → Path n t p → ext t len f p ≠ [] →
 Path n t (ext t len f p) ∧ (ext t len f p).length = len ∧ 0 < get t (last (ext t len f p)) (rd (ext t len f p) 0) ∧ rd (ext t len f p) 0 = rd p 0 := by
 intro f
 induction f with
 | zero =>
  intro p hl hp hP hne
  rw [ext] at hne ⊢
  by_cases h : 0 < rd (rd_L1 t (last p)) (rd p 0)
  · rw [if_pos h]
    exact ⟨hP, by omega, h, rfl⟩
  · rw [if_neg h] at hne; exact absurd rfl hne
 | succ f ih =>
  intro p hl hp hP hne
  rw [ext] at hne ⊢
  obtain ⟨d, hd, he, hne2⟩ := firstOf_mem _ _ hne
  rw [he]
  have hp0 := hP.ins 0 (by omega) (by omega)
  rw [mem_upTo _ _ _ (by omega)] at hd
  rw [hg.1.1] at hd
  by_cases hc : rd (rd_L1 t (last p)) d = 0 ∨ p.contains d = true
  · simp only [if_pos hc] at hne2; exact absurd rfl hne2
  · simp only [if_neg hc] at hne2 ⊢
    have hc1 : rd (rd_L1 t (last p)) d ≠ 0 := fun e => hc (.inl e)
    have hc2 : p.contains d = false := by
     cases h : p.contains d with
     | true => exact absurd (.inr h) hc
     | false => rfl
    have hL := hP.ins ((p.length : Int) - 1) (by omega) (by omega)
    have hpos : 0 < get t (rd p ((p.length : Int) - 1)) d := by
     have := hg.2 (rd p ((p.length : Int) - 1)) d hL.1 hL.2 (by omega) hd.2
     have h2 : get t (rd p ((p.length : Int) - 1)) d ≠ 0 := hc1
     omega
    obtain ⟨h1, h2, h3, h4⟩ := ih (p ++ [d]) (by simp; omega) (by simp) (hP.snoc hp d (by omega) hd.2 hc2 hpos) hne2
    exact ⟨h1, h2, h3, by rw [h4, rd_left p d 0 (by omega) (by omega)]⟩
theorem single_path (n : Nat) (t : List (List Int)) (d : Int) (d0 : 0 ≤ d) (d1 : d < n) : Path n t [d] := by
 have hr : ∀ i : Int, 0 ≤ i → i < ([d] : List Int).length → i = 0 := by intro i i0 i1; simp at i1; omega
 refine ⟨fun i i0 i1 => ?_, fun i j i0 i1 j0 j1 _ => ?_, fun i i0 i1 => ?_⟩
 · obtain rfl := hr i i0 i1; exact ⟨d0, d1⟩
 · rw [hr i i0 i1, hr j j0 j1]
 · simp at i1; omega
theorem cycle_path {n : Nat} {t : List (List Int)} (hg : Good n t) (len : Nat) (hlen : 1 ≤ len) (hne : cycleOf t len ≠ []) :
 Path n t (cycleOf t len) ∧ (cycleOf t len).length = len ∧ 0 < get t (last (cycleOf t len)) (rd (cycleOf t len) 0) := by
 unfold cycleOf at hne ⊢
 obtain ⟨d, hd, he, hne2⟩ := firstOf_mem _ _ hne
 rw [he]
 rw [mem_upTo _ _ _ (by omega), hg.1.1] at hd
 obtain ⟨h1, h2, h3, _⟩ := ext_path hg len (len - 1) [d] (by simp; omega) (by simp) (single_path n t d hd.1 hd.2) hne2
 exact ⟨h1, h2, h3⟩
def nxt (c : List Int) (i : Nat) : Int := rd c (((i + 1) % c.length : Nat) : Int)
def leastTo (t : List (List Int)) (c : List Int) : Nat → Int
 | 0 => 1099511627776
 | i + 1 => min (leastTo t c i) (get t (rd c i) (nxt c i))
def subTo (t : List (List Int)) (c : List Int) (l : Int) : Nat → List (List Int)
 | 0 => t
 | i + 1 => upd (subTo t c l i) (rd c i) (nxt c i) (wrap64 (get (subTo t c l i) (rd c i) (nxt c i) - l))
def cancelOnce (t : List (List Int)) (c : List Int) : List (List Int) := subTo t c (leastTo t c c.length) c.length
structure Cyc (n : Nat) (t : List (List Int)) (c : List Int) : Prop where
 ins : ∀ i : Nat, i < c.length → 0 ≤ rd c i ∧ rd c i < n
 dif : ∀ i j : Nat, i < c.length → j < c.length → rd c i = rd c j → i = j
 edge : ∀ i : Nat, i < c.length → 0 < get t (rd c i) (nxt c i)
 pos : 0 < c.length
theorem nxt_in {n : Nat} {t : List (List Int)} {c : List Int} (h : Cyc n t c) (i : Nat) : 0 ≤ nxt c i ∧ nxt c i < n := h.ins _ (Nat.mod_lt _ h.pos)
theorem cycle_cyc {n : Nat} {t : List (List Int)} (hg : Good n t) (len : Nat) (hlen : 1 ≤ len) (hne : cycleOf t len ≠ []) : Cyc n t (cycleOf t len) ∧ (cycleOf t len).length = len := by
 obtain ⟨h1, h2, h3⟩ := cycle_path hg len hlen hne
 refine ⟨⟨fun i hi => h1.ins i (by omega) (by omega), fun i j hi hj e => ?_, fun i hi => ?_, by omega⟩, h2⟩
 · have := h1.dif i j (by omega) (by omega) (by omega) (by omega) e
   omega
 · unfold nxt
   by_cases h : i + 1 < (cycleOf t len).length
   · rw [Nat.mod_eq_of_lt h]
     exact h1.edge i (by omega) (by omega)
   · have : i + 1 = (cycleOf t len).length := by omega
     rw [this, Nat.mod_self]
     have e : (i : Int) = ((cycleOf t len).length : Int) - 1 := by omega
     rw [e]
     exact h3
theorem least_le (t : List (List Int)) (c : List Int) (m i : Nat) (h : i < m) : leastTo t c m ≤ get t (rd c i) (nxt c i) := by
 induction m with
 | zero => omega
 | succ m ih =>
  rw [leastTo]
  by_cases e : i = m
  · subst e; omega
  · have := ih (by omega); omega
theorem least_pos {n : Nat} {t : List (List Int)} {c : List Int} (h : Cyc n t c) (m : Nat) (hm : m ≤ c.length) : 0 < leastTo t c m ∧ leastTo t c m ≤ 1099511627776 := by
 induction m with
 | zero => simp [leastTo]
 | succ m ih =>
  rw [leastTo]
  have := h.edge m (by omega)
  have := ih (by omega)
  omega
theorem sub_get {n : Nat} {t : List (List Int)} {c : List Int} (hg : Good n t) (h : Cyc n t c) (l : Int) (l0 : 0 ≤ l) (m : Nat) (hm : m ≤ c.length) (hl : ∀ i, i < m → l ≤ get t (rd c i) (nxt c i)) :
 Sqn n (subTo t c l m) ∧ ∀ a b : Int, 0 ≤ a → a < n → 0 ≤ b → b < n →
  ((∃ i, i < m ∧ a = rd c i ∧ b = nxt c i) → get (subTo t c l m) a b = get t a b - l) ∧ ((¬ ∃ i, i < m ∧ a = rd c i ∧ b = nxt c i) → get (subTo t c l m) a b = get t a b) := by
 induction m with
 | zero => exact ⟨hg.1, fun a b _ _ _ _ => ⟨fun ⟨i, hi, _⟩ => by omega, fun _ => rfl⟩⟩
 | succ m ih =>
  obtain ⟨h1, h2⟩ := ih (by omega) (fun i hi => hl i (by omega))
  have hi1 := h.ins m (by omega)
  have hi2 := nxt_in h m
  have hno : ¬ ∃ i, i < m ∧ rd c m = rd c i ∧ nxt c m = nxt c i := by
   rintro ⟨i, hi, e, _⟩
   have := h.dif m i (by omega) (by omega) e
   omega
  have hold : get (subTo t c l m) (rd c m) (nxt c m) = get t (rd c m) (nxt c m) := (h2 _ _ hi1.1 hi1.2 hi2.1 hi2.2).2 hno
  have hb := hg.2 _ _ hi1.1 hi1.2 hi2.1 hi2.2
  have hlm := hl m (by omega)
  refine ⟨h1.upd _ _ _, fun a b a0 a1 b0 b1 => ?_⟩
  have hu := get_upd h1 (rd c m) (nxt c m) (wrap64 (get (subTo t c l m) (rd c m) (nxt c m) - l)) a b hi1.1 hi1.2 hi2.1 hi2.2 a0 b0
  rw [subTo, hu, hold, wrap_small (by omega) (by omega)]
  constructor
  · rintro ⟨i, hi, ea, eb⟩
    by_cases e : i = m
    · subst e; rw [if_pos ⟨ea, eb⟩, ea, eb]
    · rw [if_neg]
      · exact (h2 a b a0 a1 b0 b1).1 ⟨i, by omega, ea, eb⟩
      · rintro ⟨ea', _⟩
        exact hno ⟨i, by omega, by rw [← ea', ea], by
          have := h.dif m i (by omega) (by omega) (by rw [← ea', ea])
          omega⟩
  · intro hn
    rw [if_neg]
    · exact (h2 a b a0 a1 b0 b1).2 (fun ⟨i, hi, e⟩ => hn ⟨i, by omega, e⟩)
    · rintro ⟨ea, eb⟩
      exact hn ⟨m, by omega, ea, eb⟩
theorem sub_phi {n : Nat} {t : List (List Int)} {c : List Int} (hg : Good n t) (h : Cyc n t c) (l : Int) (l0 : 0 < l) (m : Nat) (hm : m ≤ c.length) (hl : ∀ i, i < m → l ≤ get t (rd c i) (nxt c i)) : phi (subTo t c l m) + m ≤ phi t := by
 induction m with
 | zero => exact Nat.le_refl _
 | succ m ih =>
  have ih := ih (by omega) (fun i hi => hl i (by omega))
  obtain ⟨h1, h2⟩ := sub_get hg h l (by omega) m (by omega) (fun i hi => hl i (by omega))
  have hi1 := h.ins m (by omega)
  have hi2 := nxt_in h m
  have hno : ¬ ∃ i, i < m ∧ rd c m = rd c i ∧ nxt c m = nxt c i := by
   rintro ⟨i, hi, e, _⟩
   have := h.dif m i (by omega) (by omega) e
   omega
  have hold : get (subTo t c l m) (rd c m) (nxt c m) = get t (rd c m) (nxt c m) := (h2 _ _ hi1.1 hi1.2 hi2.1 hi2.2).2 hno
  have hb := hg.2 _ _ hi1.1 hi1.2 hi2.1 hi2.2
  have hlm := hl m (by omega)
  have hp := phi_upd h1 (rd c m) (nxt c m) (wrap64 (get (subTo t c l m) (rd c m) (nxt c m) - l)) hi1.1 hi1.2 hi2.1 hi2.2
  rw [subTo]
  rw [hold, wrap_small (by omega) (by omega)] at hp ⊢
  omega
theorem cancel_good {n : Nat} {t : List (List Int)} {c : List Int} (hg : Good n t) (h : Cyc n t c) : Good n (cancelOnce t c) ∧ phi (cancelOnce t c) < phi t := by
 have hl := least_pos h c.length (Nat.le_refl _)
 have hle : ∀ i, i < c.length → leastTo t c c.length ≤ get t (rd c i) (nxt c i) := fun i hi => least_le t c _ i hi
 obtain ⟨h1, h2⟩ := sub_get hg h _ (by omega) c.length (Nat.le_refl _) hle
 have h3 := sub_phi hg h _ hl.1 c.length (Nat.le_refl _) hle
 have := h.pos
 refine ⟨⟨h1, fun a b a0 a1 b0 b1 => ?_⟩, by unfold cancelOnce; omega⟩
 have hb := hg.2 a b a0 a1 b0 b1
 by_cases he : ∃ i, i < c.length ∧ a = rd c i ∧ b = nxt c i
 · have := (h2 a b a0 a1 b0 b1).1 he
   obtain ⟨i, hi, rfl, rfl⟩ := he
   have := hle i hi
   unfold cancelOnce
   omega
 · have := (h2 a b a0 a1 b0 b1).2 he
   unfold cancelOnce
   omega
def cancelLen (len : Nat) : Nat → List (List Int) → List (List Int)
 | 0, t => t
 | f + 1, t => if cycleOf t len = [] then t else cancelLen len f (cancelOnce t (cycleOf t len))
def cancelFrom : Nat → Nat → List (List Int) → List (List Int)
 | 0, _, t => t
 | k + 1, len, t => cancelFrom k (len + 1) (cancelLen len (phi t + 1) t)
def cancelT (t : List (List Int)) : List (List Int) := cancelFrom (t.length - 1) 2 t
def cancelOut (t : List (List Int)) : List (List Int) × Int := if validT t = true then (cancelT t, 0) else ([], 1)
theorem valid_good {t : List (List Int)} (h : validT t = true) : Good t.length t := by
 refine ⟨⟨rfl, fun i i0 i1 => rowlen h i i0 i1⟩, fun i j i0 i1 j0 j1 => ?_⟩
 have hm : rd_L1 t i ∈ t := by
  unfold rd_L1
  rw [List.getD_eq_getElem?_getD, List.getElem?_eq_getElem (by omega)]
  exact List.getElem_mem _
 have hr := (valid_sq h).2 _ hm
 have hb := hr.2
 rw [badAny, List.any_eq_false] at hb
 have hj : j.toNat < (rd_L1 t i).length := by rw [hr.1]; omega
 have := hb ((rd_L1 t i)[j.toNat]) (List.getElem_mem hj)
 have e : get t i j = (rd_L1 t i)[j.toNat] := by
  unfold get
  rw [rd, List.getD_eq_getElem?_getD, List.getElem?_eq_getElem hj]
  rfl
 rw [e]
 simpa [okN] using this
end Go.Proofs.Ytdljbmgknhbceaa.A
end
section
namespace Go.Proofs.Ytdljbmgknhbceaa.Q
open Go.RowKit Go.Proofs.YtdljbmgknhbceaaW.PrintWords Go.Proofs.YtdljbmgknhbceaaW.PrintLast Go.Proofs.YtdljbmgknhbceaaW.PrintMore
attribute [local go_sem] max2_int min2_int max_two min_two max_three min_three max_four min_four
def kinkeepref35_SameInts.l0 : Nat → List Int → List Int → Int → Option (Bool)
 | 0, _, _, _ => none
 | k + 1, x0, x1, x5 => if x5 < (x0.length : Int) then (if 0 ≤ x5 then (if x5 < (x1.length : Int) then (if (rd x0 x5) = (rd x1 x5) then (kinkeepref35_SameInts.l0 k x0 x1 (wrap64 (x5 + 1))) else (some false)) else (none)) else (none)) else (some true)
def kinkeepref35_SameInts.f (k : Nat) (l0 : List Int) (l1 : List Int) : Option (Bool) := if (l0.length : Int) = (l1.length : Int) then (kinkeepref35_SameInts.l0 k l0 l1 0) else (some false)
theorem kinkeepref35_SameInts.mono_l : ∀ k, (∀ y0 y1 y2, LeO (kinkeepref35_SameInts.l0 k y0 y1 y2) (kinkeepref35_SameInts.l0 (k + 1) y0 y1 y2))
 | 0 => fun _ _ _ r h => by simp [kinkeepref35_SameInts.l0] at h
 | k + 1 => by
  have ih0 := kinkeepref35_SameInts.mono_l k
  · intro y0 y1 y2
    unfold kinkeepref35_SameInts.l0
    repeat' first
    | (with_reducible exact ih0 _ _ _)
    | (with_reducible exact LeO.refl _)
    | (with_reducible exact LeO.none _)
    | (with_reducible refine LeO.ite ?_ ?_)
    | (with_reducible refine LeO.bind ?_ (fun _ => ?_))
    | exact ih0 _ _ _
    | exact LeO.none _
    | refine LeO.ite ?_ ?_
    | refine LeO.bind ?_ (fun _ => ?_)
theorem kinkeepref35_SameInts.mono : ∀ a0 a1 k, LeO (kinkeepref35_SameInts.f k a0 a1) (kinkeepref35_SameInts.f (k + 1) a0 a1) := by
 intro a0 a1 k
 have ih0 := kinkeepref35_SameInts.mono_l k
 unfold kinkeepref35_SameInts.f
 repeat' first
  | (with_reducible exact ih0 _ _ _)
  | (with_reducible exact LeO.refl _)
  | (with_reducible exact LeO.none _)
  | (with_reducible refine LeO.ite ?_ ?_)
  | (with_reducible refine LeO.bind ?_ (fun _ => ?_))
  | exact ih0 _ _ _
  | exact LeO.none _
  | refine LeO.ite ?_ ?_
  | refine LeO.bind ?_ (fun _ => ?_)
set_option maxHeartbeats 8000000 in
set_option maxRecDepth 100000 in
theorem kinkeepref35_SameInts.calls (k : Nat) (A0 : Option Addr) (c0 : Nat) (l0 : List Int) (A1 : Option Addr) (c1 : Nat) (l1 : List Int) (r : Bool) (w : World) (hr0 : Kd.C (Kd.int .i64) w A0 l0.length l0) (hc0 : l0.length ≤ c0) (hr1 : Kd.C (Kd.int .i64) w A1 l1.length l1) (hc1 : l1.length ≤ c1) (h : kinkeepref35_SameInts.f k l0 l1 = some r) :
 Calls Try.prog 29 #[.slice A0 l0.length c0, .slice A1 l1.length c1] w fun e w' => e = .returned (.bool r) ∧ Drawn0 w w' := by
 have HR0 := sA hr0
 have HC0 := sA hc0
 clear hr0 hc0
 have HR1 := sA hr1
 have HC1 := sA hc1
 clear hr1 hc1
 have H : (if (l0.length : Int) = (l1.length : Int) then (kinkeepref35_SameInts.l0 k l0 l1 0) else (some false)) = some r := h
 clear h
 by_cases c3 : (l0.length : Int) = (l1.length : Int)
 · rw [if_pos c3] at H
   have c3b0 : ((l0.length : Int) == (l1.length : Int)) = true := beq_iff_eq.mpr c3
   have c3b1 : ((l0.length : Int) != (l1.length : Int)) = false := bne_eq_false_iff_eq.mpr c3
   have c3b2 : (l0.length == l1.length) = true := by first | simpa using c3 | (simp at c3 ⊢; omega)
   clear c3
   have H' := sA H
   clear H
   go_enter Try.func29, Try.ntmps29
   go_wp2
   repeat (go_quiet (fail); try go_wp2)
   go_loopg [5] k (fun kq v5 w' => ∃ (x5_1 : Int), v5 = .int .i64 x5_1 ∧ Aside0 (kinkeepref35_SameInts.l0 kq l0 l1 x5_1 = some r) ∧ Aside0 (kq ≤ k) ∧ Drawn0 w w')
   case atStart => exact ⟨(0), (upE), H', ⟨Nat.le_refl _⟩, upD⟩
   case round =>
    clear H'
    try clear c1
    try clear c2
    try clear p2
    try clear c3
    try clear c3b0
    try clear c3b1
    try clear c3b2
    obtain ⟨x5_1, rfl, HA, HK1, ⟨m1, rfl⟩⟩ := hrel
    cases gk with
    | zero => exact absurd HA.out (by simp [kinkeepref35_SameInts.l0])
    | succ k1 =>
     have H := HA.out
     clear HA
     simp only [kinkeepref35_SameInts.l0] at H
     by_cases c4 : x5_1 < (l0.length : Int)
     · rw [if_pos c4] at H
       have c4b0 : decide (x5_1 < (l0.length : Int)) = true := decide_eq_true c4
       clear c4
       by_cases c5 : 0 ≤ x5_1
       · rw [if_pos c5] at H
         have c5b0 : decide (0 ≤ x5_1) = true := decide_eq_true c5
         clear c5
         by_cases c6 : x5_1 < (l1.length : Int)
         · rw [if_pos c6] at H
           have c6b0 : decide (x5_1 < (l1.length : Int)) = true := decide_eq_true c6
           clear c6
           by_cases c7 : (rd l0 x5_1) = (rd l1 x5_1)
           · rw [if_pos c7] at H
             have c7b0 : ((rd l0 x5_1) == (rd l1 x5_1)) = true := beq_iff_eq.mpr c7
             have c7b1 : ((rd l0 x5_1) != (rd l1 x5_1)) = false := bne_eq_false_iff_eq.mpr c7
             clear c7
             have H' := sA H
             clear H
             have p128 : 0 ≤ (x5_1 : Int) := upA
             have q128 : x5_1 < (l0.length : Int) := upA
             obtain ⟨ad128, e128, hx128_0⟩ := Kd.at_int HR0.out x5_1 p128 q128
             cases e128
             replace p128 := eq_true p128
             replace q128 := eq_true q128
             have p129 : 0 ≤ (x5_1 : Int) := upA
             have q129 : x5_1 < (l1.length : Int) := upA
             obtain ⟨ad129, e129, hx129_0⟩ := Kd.at_int HR1.out x5_1 p129 q129
             cases e129
             replace p129 := eq_true p129
             replace q129 := eq_true q129
             go_wp2
             repeat (go_quiet (fail); try go_wp2)
             go_roundg k1
             case measure => have := HK1.out; omega
             case rel => exact ⟨(wrap64 (x5_1 + 1)), (upE), H', ⟨by have := HK1.out; omega⟩, upD⟩
           · rw [if_neg c7] at H
             have c7b0 : ((rd l0 x5_1) == (rd l1 x5_1)) = false := beq_eq_false_iff_ne.mpr c7
             have c7b1 : ((rd l0 x5_1) != (rd l1 x5_1)) = true := bne_iff_ne.mpr c7
             obtain rfl := Option.some.inj H
             have p128 : 0 ≤ (x5_1 : Int) := upA
             have q128 : x5_1 < (l0.length : Int) := upA
             obtain ⟨ad128, e128, hx128_0⟩ := Kd.at_int HR0.out x5_1 p128 q128
             cases e128
             replace p128 := eq_true p128
             replace q128 := eq_true q128
             have p129 : 0 ≤ (x5_1 : Int) := upA
             have q129 : x5_1 < (l1.length : Int) := upA
             obtain ⟨ad129, e129, hx129_0⟩ := Kd.at_int HR1.out x5_1 p129 q129
             cases e129
             replace p129 := eq_true p129
             replace q129 := eq_true q129
             go_wp2
             repeat (go_quiet (fail); try go_wp2)
             go_ret
             exact ⟨upE, upD⟩
         · rw [if_neg c6] at H
           exact absurd H (by simp)
       · rw [if_neg c5] at H
         exact absurd H (by simp)
     · rw [if_neg c4] at H
       have c4b0 : decide (x5_1 < (l0.length : Int)) = false := decide_eq_false c4
       clear c4
       obtain rfl := Option.some.inj H
       go_wp2
       repeat (go_quiet (fail); try go_wp2)
       go_ret
       exact ⟨upE, upD⟩
 · rw [if_neg c3] at H
   have c3b0 : ((l0.length : Int) == (l1.length : Int)) = false := beq_eq_false_iff_ne.mpr c3
   have c3b1 : ((l0.length : Int) != (l1.length : Int)) = true := bne_iff_ne.mpr c3
   have c3b2 : (l0.length == l1.length) = false := by first | simpa using c3 | (simp at c3 ⊢; omega)
   obtain rfl := Option.some.inj H
   go_enter Try.func29, Try.ntmps29
   go_wp2
   repeat (go_quiet (fail); try go_wp2)
   go_ret
   exact ⟨upE, upD⟩
end Go.Proofs.Ytdljbmgknhbceaa.Q
namespace Go.Proofs.Ytdljbmgknhbceaa.Q
open Go.RowKit Go.Proofs.YtdljbmgknhbceaaW.PrintWords Go.Proofs.YtdljbmgknhbceaaW.PrintLast Go.Proofs.YtdljbmgknhbceaaW.PrintMore
attribute [local go_sem] max2_int min2_int max_two min_two max_three min_three max_four min_four
def kinkeepref35_Same.l0 : Nat → List (List Int) → List (List Int) → Int → Option (Bool)
 | 0, _, _, _ => none
 | k + 1, x0, x1, x5 => if x5 < (x0.length : Int) then (if 0 ≤ x5 then (if x5 < (x1.length : Int) then ((kinkeepref35_SameInts.f k (rd_L1 x0 x5) (rd_L1 x1 x5)).bind fun t132 => (if t132 = true then (kinkeepref35_Same.l0 k x0 x1 (wrap64 (x5 + 1))) else (some false))) else (none)) else (none)) else (some true)
def kinkeepref35_Same.f (k : Nat) (l0 : List (List Int)) (l1 : List (List Int)) : Option (Bool) := if (l0.length : Int) = (l1.length : Int) then (kinkeepref35_Same.l0 k l0 l1 0) else (some false)
theorem kinkeepref35_Same.mono_l : ∀ k, (∀ y0 y1 y2, LeO (kinkeepref35_Same.l0 k y0 y1 y2) (kinkeepref35_Same.l0 (k + 1) y0 y1 y2))
 | 0 => fun _ _ _ r h => by simp [kinkeepref35_Same.l0] at h
 | k + 1 => by
  have ih0 := kinkeepref35_Same.mono_l k
  · intro y0 y1 y2
    unfold kinkeepref35_Same.l0
    repeat' first
    | (with_reducible exact ih0 _ _ _)
    | (with_reducible exact kinkeepref35_SameInts.mono _ _ _)
    | (with_reducible exact LeO.refl _)
    | (with_reducible exact LeO.none _)
    | (with_reducible refine LeO.ite ?_ ?_)
    | (with_reducible refine LeO.bind ?_ (fun _ => ?_))
    | exact ih0 _ _ _
    | exact kinkeepref35_SameInts.mono _ _ _
    | exact LeO.none _
    | refine LeO.ite ?_ ?_
    | refine LeO.bind ?_ (fun _ => ?_)
theorem kinkeepref35_Same.mono : ∀ a0 a1 k, LeO (kinkeepref35_Same.f k a0 a1) (kinkeepref35_Same.f (k + 1) a0 a1) := by
 intro a0 a1 k
 have ih0 := kinkeepref35_Same.mono_l k
 unfold kinkeepref35_Same.f
 repeat' first
  | (with_reducible exact ih0 _ _ _)
  | (with_reducible exact kinkeepref35_SameInts.mono _ _ _)
  | (with_reducible exact LeO.refl _)
  | (with_reducible exact LeO.none _)
  | (with_reducible refine LeO.ite ?_ ?_)
  | (with_reducible refine LeO.bind ?_ (fun _ => ?_))
  | exact ih0 _ _ _
  | exact kinkeepref35_SameInts.mono _ _ _
  | exact LeO.none _
  | refine LeO.ite ?_ ?_
  | refine LeO.bind ?_ (fun _ => ?_)
set_option maxHeartbeats 8000000 in
set_option maxRecDepth 100000 in
theorem kinkeepref35_Same.calls (k : Nat) (A0 : Option Addr) (c0 : Nat) (l0 : List (List Int)) (A1 : Option Addr) (c1 : Nat) (l1 : List (List Int)) (r : Bool) (w : World) (hr0 : Kd.C (Kd.slice 3 (Kd.int .i64)) w A0 l0.length l0) (hc0 : l0.length ≤ c0) (hr1 : Kd.C (Kd.slice 3 (Kd.int .i64)) w A1 l1.length l1) (hc1 : l1.length ≤ c1) (h : kinkeepref35_Same.f k l0 l1 = some r) :
 Calls Try.prog 17 #[.slice A0 l0.length c0, .slice A1 l1.length c1] w fun e w' => e = .returned (.bool r) ∧ Drawn0 w w' := by
 have HR0 := sA hr0
 have HC0 := sA hc0
 clear hr0 hc0
 have HR1 := sA hr1
 have HC1 := sA hc1
 clear hr1 hc1
 have H : (if (l0.length : Int) = (l1.length : Int) then (kinkeepref35_Same.l0 k l0 l1 0) else (some false)) = some r := h
 clear h
 by_cases c3 : (l0.length : Int) = (l1.length : Int)
 · rw [if_pos c3] at H
   have c3b0 : ((l0.length : Int) == (l1.length : Int)) = true := beq_iff_eq.mpr c3
   have c3b1 : ((l0.length : Int) != (l1.length : Int)) = false := bne_eq_false_iff_eq.mpr c3
   have c3b2 : (l0.length == l1.length) = true := by first | simpa using c3 | (simp at c3 ⊢; omega)
   clear c3
   have H' := sA H
   clear H
   go_enter Try.func17, Try.ntmps17
   go_wp2
   repeat (go_quiet (fail); try go_wp2)
   go_loopg [5] k (fun kq v5 w' => ∃ (x5_1 : Int), v5 = .int .i64 x5_1 ∧ Aside0 (kinkeepref35_Same.l0 kq l0 l1 x5_1 = some r) ∧ Aside0 (kq ≤ k) ∧ Drawn0 w w')
   case atStart => exact ⟨(0), (upE), H', ⟨Nat.le_refl _⟩, upD⟩
   case round =>
    clear H'
    try clear c1
    try clear p2
    try clear c3
    try clear c3b0
    try clear c3b1
    try clear c3b2
    obtain ⟨x5_1, rfl, HA, HK1, ⟨m1, rfl⟩⟩ := hrel
    cases gk with
    | zero => exact absurd HA.out (by simp [kinkeepref35_Same.l0])
    | succ k1 =>
     have H := HA.out
     clear HA
     simp only [kinkeepref35_Same.l0] at H
     by_cases c4 : x5_1 < (l0.length : Int)
     · rw [if_pos c4] at H
       have c4b0 : decide (x5_1 < (l0.length : Int)) = true := decide_eq_true c4
       clear c4
       by_cases c5 : 0 ≤ x5_1
       · rw [if_pos c5] at H
         have c5b0 : decide (0 ≤ x5_1) = true := decide_eq_true c5
         clear c5
         by_cases c6 : x5_1 < (l1.length : Int)
         · rw [if_pos c6] at H
           have c6b0 : decide (x5_1 < (l1.length : Int)) = true := decide_eq_true c6
           clear c6
           replace H := Option.bind_eq_some_iff.mp H
           obtain ⟨t132, A70, H⟩ := H
           replace H : (if t132 = true then (kinkeepref35_Same.l0 k1 l0 l1 (wrap64 (x5_1 + 1))) else (some false)) = some r := H
           have A7 := sA A70
           clear A70
           by_cases c8 : t132 = true
           · subst c8
             have H1 : (kinkeepref35_Same.l0 k1 l0 l1 (wrap64 (x5_1 + 1))) = some r := by rw [if_pos rfl] at H; exact H
             clear H
             have H := H1
             clear H1
             have H' := sA H
             clear H
             have p130 : 0 ≤ (x5_1 : Int) := upA
             have q130 : x5_1 < (l0.length : Int) := upA
             obtain ⟨ad130, A130_0, c130_0, e130, hx130_0, hl130_0, hi130_0⟩ := at_L1 HR0.out x5_1 p130 q130
             cases e130
             have HR130_0 := sA hi130_0
             have HC130_0 := sA hl130_0
             clear hi130_0 hl130_0
             replace p130 := eq_true p130
             replace q130 := eq_true q130
             have p131 : 0 ≤ (x5_1 : Int) := upA
             have q131 : x5_1 < (l1.length : Int) := upA
             obtain ⟨ad131, A131_0, c131_0, e131, hx131_0, hl131_0, hi131_0⟩ := at_L1 HR1.out x5_1 p131 q131
             cases e131
             have HR131_0 := sA hi131_0
             have HC131_0 := sA hl131_0
             clear hi131_0 hl131_0
             replace p131 := eq_true p131
             replace q131 := eq_true q131
             go_wp2_with (first | (go_at_call 29; (with_reducible refine (kinkeepref35_SameInts.calls k1 _ _ (rd_L1 l0 x5_1) _ _ (rd_L1 l1 x5_1) true _ ?side1 ?side2 ?side3 ?side4 A7.out).mono ?_); (case side1 => exact upX HR130_0.out); (case side2 => exact HC130_0.out); (case side3 => exact upX HR131_0.out); (case side4 => exact HC131_0.out); rintro e w' ⟨rfl, ⟨nd, rfl⟩⟩; (try first | exact ⟨rfl, _, World.drewN_drewN _ _ _⟩ | exact ⟨rfl, _, Eq.trans (World.drewN_drewN _ _ _) (congrArg (World.drewN _) (Nat.add_assoc _ _ _))⟩)))
             repeat (go_quiet (first | (go_at_call 29; (with_reducible refine (kinkeepref35_SameInts.calls k1 _ _ (rd_L1 l0 x5_1) _ _ (rd_L1 l1 x5_1) true _ ?side1 ?side2 ?side3 ?side4 A7.out).mono ?_); (case side1 => exact upX HR130_0.out); (case side2 => exact HC130_0.out); (case side3 => exact upX HR131_0.out); (case side4 => exact HC131_0.out); rintro e w' ⟨rfl, ⟨nd, rfl⟩⟩; (try first | exact ⟨rfl, _, World.drewN_drewN _ _ _⟩ | exact ⟨rfl, _, Eq.trans (World.drewN_drewN _ _ _) (congrArg (World.drewN _) (Nat.add_assoc _ _ _))⟩))); try go_wp2_with (first | (go_at_call 29; (with_reducible refine (kinkeepref35_SameInts.calls k1 _ _ (rd_L1 l0 x5_1) _ _ (rd_L1 l1 x5_1) true _ ?side1 ?side2 ?side3 ?side4 A7.out).mono ?_); (case side1 => exact upX HR130_0.out); (case side2 => exact HC130_0.out); (case side3 => exact upX HR131_0.out); (case side4 => exact HC131_0.out); rintro e w' ⟨rfl, ⟨nd, rfl⟩⟩; (try first | exact ⟨rfl, _, World.drewN_drewN _ _ _⟩ | exact ⟨rfl, _, Eq.trans (World.drewN_drewN _ _ _) (congrArg (World.drewN _) (Nat.add_assoc _ _ _))⟩))))
             go_roundg k1
             case measure => have := HK1.out; omega
             case rel => exact ⟨(wrap64 (x5_1 + 1)), (upE), H', ⟨by have := HK1.out; omega⟩, upD⟩
           · replace c8 := Bool.eq_false_iff.mpr c8
             subst c8
             have H1 : (some false) = some r := by rw [if_neg (show ¬ (false = true) by decide)] at H; exact H
             clear H
             have H := H1
             clear H1
             obtain rfl := Option.some.inj H
             have p130 : 0 ≤ (x5_1 : Int) := upA
             have q130 : x5_1 < (l0.length : Int) := upA
             obtain ⟨ad130, A130_0, c130_0, e130, hx130_0, hl130_0, hi130_0⟩ := at_L1 HR0.out x5_1 p130 q130
             cases e130
             have HR130_0 := sA hi130_0
             have HC130_0 := sA hl130_0
             clear hi130_0 hl130_0
             replace p130 := eq_true p130
             replace q130 := eq_true q130
             have p131 : 0 ≤ (x5_1 : Int) := upA
             have q131 : x5_1 < (l1.length : Int) := upA
             obtain ⟨ad131, A131_0, c131_0, e131, hx131_0, hl131_0, hi131_0⟩ := at_L1 HR1.out x5_1 p131 q131
             cases e131
             have HR131_0 := sA hi131_0
             have HC131_0 := sA hl131_0
             clear hi131_0 hl131_0
             replace p131 := eq_true p131
             replace q131 := eq_true q131
             go_wp2_with (first | (go_at_call 29; (with_reducible refine (kinkeepref35_SameInts.calls k1 _ _ (rd_L1 l0 x5_1) _ _ (rd_L1 l1 x5_1) false _ ?side1 ?side2 ?side3 ?side4 A7.out).mono ?_); (case side1 => exact upX HR130_0.out); (case side2 => exact HC130_0.out); (case side3 => exact upX HR131_0.out); (case side4 => exact HC131_0.out); rintro e w' ⟨rfl, ⟨nd, rfl⟩⟩; (try first | exact ⟨rfl, _, World.drewN_drewN _ _ _⟩ | exact ⟨rfl, _, Eq.trans (World.drewN_drewN _ _ _) (congrArg (World.drewN _) (Nat.add_assoc _ _ _))⟩)))
             repeat (go_quiet (first | (go_at_call 29; (with_reducible refine (kinkeepref35_SameInts.calls k1 _ _ (rd_L1 l0 x5_1) _ _ (rd_L1 l1 x5_1) false _ ?side1 ?side2 ?side3 ?side4 A7.out).mono ?_); (case side1 => exact upX HR130_0.out); (case side2 => exact HC130_0.out); (case side3 => exact upX HR131_0.out); (case side4 => exact HC131_0.out); rintro e w' ⟨rfl, ⟨nd, rfl⟩⟩; (try first | exact ⟨rfl, _, World.drewN_drewN _ _ _⟩ | exact ⟨rfl, _, Eq.trans (World.drewN_drewN _ _ _) (congrArg (World.drewN _) (Nat.add_assoc _ _ _))⟩))); try go_wp2_with (first | (go_at_call 29; (with_reducible refine (kinkeepref35_SameInts.calls k1 _ _ (rd_L1 l0 x5_1) _ _ (rd_L1 l1 x5_1) false _ ?side1 ?side2 ?side3 ?side4 A7.out).mono ?_); (case side1 => exact upX HR130_0.out); (case side2 => exact HC130_0.out); (case side3 => exact upX HR131_0.out); (case side4 => exact HC131_0.out); rintro e w' ⟨rfl, ⟨nd, rfl⟩⟩; (try first | exact ⟨rfl, _, World.drewN_drewN _ _ _⟩ | exact ⟨rfl, _, Eq.trans (World.drewN_drewN _ _ _) (congrArg (World.drewN _) (Nat.add_assoc _ _ _))⟩))))
             go_ret
             exact ⟨upE, upD⟩
         · rw [if_neg c6] at H
           exact absurd H (by simp)
       · rw [if_neg c5] at H
         exact absurd H (by simp)
     · rw [if_neg c4] at H
       have c4b0 : decide (x5_1 < (l0.length : Int)) = false := decide_eq_false c4
       clear c4
       obtain rfl := Option.some.inj H
       go_wp2
       repeat (go_quiet (fail); try go_wp2)
       go_ret
       exact ⟨upE, upD⟩
 · rw [if_neg c3] at H
   have c3b0 : ((l0.length : Int) == (l1.length : Int)) = false := beq_eq_false_iff_ne.mpr c3
   have c3b1 : ((l0.length : Int) != (l1.length : Int)) = true := bne_iff_ne.mpr c3
   have c3b2 : (l0.length == l1.length) = false := by first | simpa using c3 | (simp at c3 ⊢; omega)
   obtain rfl := Option.some.inj H
   go_enter Try.func17, Try.ntmps17
   go_wp2
   repeat (go_quiet (fail); try go_wp2)
   go_ret
   exact ⟨upE, upD⟩
end Go.Proofs.Ytdljbmgknhbceaa.Q
namespace Go.Proofs.Ytdljbmgknhbceaa.Q
open Go.RowKit Go.Proofs.YtdljbmgknhbceaaW.PrintWords Go.Proofs.YtdljbmgknhbceaaW.PrintLast Go.Proofs.YtdljbmgknhbceaaW.PrintMore
attribute [local go_sem] max2_int min2_int max_two min_two max_three min_three max_four min_four
def kinkeeplaw35_example.f  : Option ((List (List Int))) := some (([(([0, 5, 2] : List Int)), (([3, 0, 0] : List Int)), (([0, 4, 0] : List Int))] : List (List Int)))
set_option maxHeartbeats 8000000 in
set_option maxRecDepth 100000 in
theorem kinkeeplaw35_example.calls  (r : List (List Int)) (w : World) (h : kinkeeplaw35_example.f  = some r) :
 Calls Try.prog 36 #[] w fun e w' => ∃ v0_ : Value, e = .returned (v0_) ∧ Kd.N (Kd.slice 3 (Kd.int .i64)) 31 w' w.heap.size (fun k_ => (w.heap.size ≤ k_)) v0_ r ∧ Below w.heap.size w w' := by
 have HB := sA (Below.refl w.heap.size w)
 have H : (some (([(([0, 5, 2] : List Int)), (([3, 0, 0] : List Int)), (([0, 4, 0] : List Int))] : List (List Int)))) = some r := h
 clear h
 obtain ⟨y191, hy191⟩ : ∃ y_ : List Int, y_ = (([0, 5, 2] : List Int)) := ⟨_, rfl⟩
 replace H : (some (([y191, (([3, 0, 0] : List Int)), (([0, 4, 0] : List Int))] : List (List Int)))) = some r := by first | (rw [hy191]; with_reducible exact H) | (have H2_ := (Option.bind_some _ _).symm.trans H; rw [hy191]; with_reducible exact H2_) | (have H2_ := (Option.bind_some _ _).symm.trans H; with_reducible exact H2_) | with_reducible exact H | (rw [hy191]; exact H) | exact H
 have Ny191 := sA hy191
 clear hy191
 obtain ⟨y194, hy194⟩ : ∃ y_ : List Int, y_ = (([3, 0, 0] : List Int)) := ⟨_, rfl⟩
 replace H : (some (([y191, y194, (([0, 4, 0] : List Int))] : List (List Int)))) = some r := by first | (rw [hy194]; with_reducible exact H) | (have H2_ := (Option.bind_some _ _).symm.trans H; rw [hy194]; with_reducible exact H2_) | (have H2_ := (Option.bind_some _ _).symm.trans H; with_reducible exact H2_) | with_reducible exact H | (rw [hy194]; exact H) | exact H
 have Ny194 := sA hy194
 clear hy194
 obtain ⟨y197, hy197⟩ : ∃ y_ : List Int, y_ = (([0, 4, 0] : List Int)) := ⟨_, rfl⟩
 replace H : (some (([y191, y194, y197] : List (List Int)))) = some r := by first | (rw [hy197]; with_reducible exact H) | (have H2_ := (Option.bind_some _ _).symm.trans H; rw [hy197]; with_reducible exact H2_) | (have H2_ := (Option.bind_some _ _).symm.trans H; with_reducible exact H2_) | with_reducible exact H | (rw [hy197]; exact H) | exact H
 have Ny197 := sA hy197
 clear hy197
 obtain ⟨y200, hy200⟩ : ∃ y_ : List (List Int), y_ = (([y191, y194, y197] : List (List Int))) := ⟨_, rfl⟩
 replace H : (some y200) = some r := by first | (rw [hy200]; with_reducible exact H) | (have H2_ := (Option.bind_some _ _).symm.trans H; rw [hy200]; with_reducible exact H2_) | (have H2_ := (Option.bind_some _ _).symm.trans H; with_reducible exact H2_) | with_reducible exact H | (rw [hy200]; exact H) | exact H
 have Ny200 := sA hy200
 clear hy200
 obtain rfl := Option.some.inj H
 go_enter Try.func36, Try.ntmps36
 go_wp2_with (first | ((with_reducible refine gate_dst (N := 1) rfl ?_); refine Kd.R_lit (Kd.int .i64) _ 3 ?hg (N := 1) ?hd (xs := ([0, 5, 2] : List Int)) (inner := [.int .i64 0, .int .i64 5, .int .i64 2]) (ok := fun _ => True) (okp := fun _ => True) ?hr ?hp (fun _ hk => hk) trivial (Below.refl _ _) (Nat.le_refl _) (by simp) ?_; (case hd => rfl); (case hg => rfl); (case hr => first | (go_simp; done) | (go_simp; rfl)); (case hp => exact (Reps.one (show Kd.M (Kd.int .i64) _ _ _ 0 [.int .i64 0] from rfl) (Reps.one (show Kd.M (Kd.int .i64) _ _ _ 5 [.int .i64 5] from rfl) (Reps.one (show Kd.M (Kd.int .i64) _ _ _ 2 [.int .i64 2] from rfl) (Reps.none _ _))))); intro v192 w1 ho2 hb hg_ hnew_; clear hg_ hnew_; (first | rw [← Ny191.out] at ho2 | (simp only [Int.reduceToNat] at ho2; rw [← Ny191.out] at ho2)); have n0_ := sA (Kd.R_lower (Kd.R_newM (M := fun k_ => (w.heap.size ≤ k_)) ho2 (below_size (upC HB.out)) (fun k_ h_ => h_)) (below_size (upC HB.out))); have n1_ := sA (below_step (upC HB.out) hb); clear HB; have HO193 := n0_; have HB := n1_; clear n0_ n1_; clear hb ho2) | ((with_reducible refine gate_dst (N := 2) rfl ?_); refine Kd.R_lit (Kd.int .i64) _ 3 ?hg (N := 2) ?hd (xs := ([3, 0, 0] : List Int)) (inner := [.int .i64 3, .int .i64 0, .int .i64 0]) (ok := fun _ => True) (okp := fun _ => True) ?hr ?hp (fun _ hk => hk) trivial (Below.refl _ _) (Nat.le_refl _) (by simp) ?_; (case hd => rfl); (case hg => rfl); (case hr => first | (go_simp; done) | (go_simp; rfl)); (case hp => exact (Reps.one (show Kd.M (Kd.int .i64) _ _ _ 3 [.int .i64 3] from rfl) (Reps.one (show Kd.M (Kd.int .i64) _ _ _ 0 [.int .i64 0] from rfl) (Reps.one (show Kd.M (Kd.int .i64) _ _ _ 0 [.int .i64 0] from rfl) (Reps.none _ _))))); intro v195 w3 ho4 hb hg_ hnew_; clear hg_ hnew_; (first | rw [← Ny194.out] at ho4 | (simp only [Int.reduceToNat] at ho4; rw [← Ny194.out] at ho4)); have n0_ := sA (Kd.R_elder' (upR HO193.out) (Kd.R_base ho4) hb); have n1_ := sA (Kd.R_lower (Kd.R_new' (Kd.R_newM (M := fun k_ => (w.heap.size ≤ k_)) ho4 (below_size (upC HB.out)) (fun k_ h_ => h_)) (Kd.R_lt (upR HO193.out))) (below_size (upC HB.out))); have n2_ := sA (below_step (upC HB.out) hb); clear HO193; clear HB; have HO193 := n0_; have HO196 := n1_; have HB := n2_; clear n0_ n1_ n2_; clear hb ho4) | ((with_reducible refine gate_dst (N := 3) rfl ?_); refine Kd.R_lit (Kd.int .i64) _ 3 ?hg (N := 3) ?hd (xs := ([0, 4, 0] : List Int)) (inner := [.int .i64 0, .int .i64 4, .int .i64 0]) (ok := fun _ => True) (okp := fun _ => True) ?hr ?hp (fun _ hk => hk) trivial (Below.refl _ _) (Nat.le_refl _) (by simp) ?_; (case hd => rfl); (case hg => rfl); (case hr => first | (go_simp; done) | (go_simp; rfl)); (case hp => exact (Reps.one (show Kd.M (Kd.int .i64) _ _ _ 0 [.int .i64 0] from rfl) (Reps.one (show Kd.M (Kd.int .i64) _ _ _ 4 [.int .i64 4] from rfl) (Reps.one (show Kd.M (Kd.int .i64) _ _ _ 0 [.int .i64 0] from rfl) (Reps.none _ _))))); intro v198 w5 ho6 hb hg_ hnew_; clear hg_ hnew_; (first | rw [← Ny197.out] at ho6 | (simp only [Int.reduceToNat] at ho6; rw [← Ny197.out] at ho6)); have n0_ := sA (Kd.R_elder' (upR HO193.out) (Kd.R_base ho6) hb); have n1_ := sA (Kd.R_elder' (upR HO196.out) (Kd.R_base ho6) hb); have n2_ := sA (Kd.R_lower (Kd.R_new' (Kd.R_new' (Kd.R_newM (M := fun k_ => (w.heap.size ≤ k_)) ho6 (below_size (upC HB.out)) (fun k_ h_ => h_)) (Kd.R_lt (upR HO193.out))) (Kd.R_lt (upR HO196.out))) (below_size (upC HB.out))); have n3_ := sA (below_step (upC HB.out) hb); clear HO193; clear HO196; clear HB; have HO193 := n0_; have HO196 := n1_; have HO199 := n2_; have HB := n3_; clear n0_ n1_ n2_ n3_; clear hb ho6; obtain ⟨Ao7, co7, eo7⟩ := Kd.R_slice HO193.out; subst eo7; obtain ⟨Ao8, co8, eo8⟩ := Kd.R_slice HO196.out; subst eo8; obtain ⟨Ao9, co9, eo9⟩ := Kd.R_slice HO199.out; subst eo9) | ((with_reducible refine gate_dst (N := 4) rfl ?_); refine Kd.N_lit (Kd.slice 3 (Kd.int .i64)) _ 31 ?hg (N' := 4) ?hd (xs := ([y191, y194, y197] : List (List Int))) (inner := [.slice Ao7 y191.length co7, .slice Ao8 y194.length co8, .slice Ao9 y197.length co9]) (ok := (fun k_ => (w.heap.size ≤ k_))) (okp := (fun k_ => (w.heap.size ≤ k_))) ?hr ?hp (fun _ hk => hk) ((show ∀ k_, w5.heap.size ≤ k_ → (fun k_ => (w.heap.size ≤ k_)) k_ from fun k_ hk => (Nat.le_trans (below_size (upC HB.out)) hk)) _ (Nat.le_refl _)) (Below.refl _ _) (Nat.le_refl _) (by simp) ?_; (case hd => rfl); (case hg => rfl); (case hr => first | (go_simp; done) | (go_simp; rfl)); (case hp => exact (Reps.one (show Kd.FK (Kd.slice 3 (Kd.int .i64)) _ _ y191 [.slice Ao7 y191.length co7] from (Kd.FK_slice_mk (Kd.R_reads' (Kd.R_mono (ok' := (fun k_ => (w.heap.size ≤ k_))) (HO193.out) (fun k_ hk => hk.1.1.1))).2.1 (Kd.R_F (Kd.R_mono (ok' := (fun k_ => (w.heap.size ≤ k_))) (HO193.out) (fun k_ hk => hk.1.1.1))))) (Reps.one (show Kd.FK (Kd.slice 3 (Kd.int .i64)) _ _ y194 [.slice Ao8 y194.length co8] from (Kd.FK_slice_mk (Kd.R_reads' (Kd.R_mono (ok' := (fun k_ => (w.heap.size ≤ k_))) (HO196.out) (fun k_ hk => hk.1.1.1))).2.1 (Kd.R_F (Kd.R_mono (ok' := (fun k_ => (w.heap.size ≤ k_))) (HO196.out) (fun k_ hk => hk.1.1.1))))) (Reps.one (show Kd.FK (Kd.slice 3 (Kd.int .i64)) _ _ y197 [.slice Ao9 y197.length co9] from (Kd.FK_slice_mk (Kd.R_reads' (Kd.R_mono (ok' := (fun k_ => (w.heap.size ≤ k_))) (HO199.out) (fun k_ hk => hk.1.1.1))).2.1 (Kd.R_F (Kd.R_mono (ok' := (fun k_ => (w.heap.size ≤ k_))) (HO199.out) (fun k_ hk => hk.1.1.1))))) (Reps.none _ _))))); intro v201 w10 ho11 hb hg_ hnew_; clear hg_ hnew_; (first | rw [← Ny200.out] at ho11 | (simp only [Int.reduceToNat] at ho11; rw [← Ny200.out] at ho11)); have n0_ := sA (Kd.N_lower ho11 (below_size (upC HB.out))); have n1_ := sA (below_step (upC HB.out) hb); clear HB; clear HO193; clear HO196; clear HO199; have HO202 := n0_; have HB := n1_; clear n0_ n1_; clear hb ho11))
 go_ret
 exact ⟨_, by first | rfl | (simp [errW_none, errW_some] <;> rfl) | (simp [*, errW_none, errW_some] <;> rfl), by (with_reducible repeat (first | apply Kd.N_alloc | apply Kd.N_drewN | apply Kd.N_drew)); exact HO202.out, upC HB.out⟩
end Go.Proofs.Ytdljbmgknhbceaa.Q
namespace Go.Proofs.Ytdljbmgknhbceaa.Q
open Go.RowKit Go.Proofs.YtdljbmgknhbceaaW.PrintWords Go.Proofs.YtdljbmgknhbceaaW.PrintLast Go.Proofs.YtdljbmgknhbceaaW.PrintMore
attribute [local go_sem] max2_int min2_int max_two min_two max_three min_three max_four min_four
mutual
def kinkeeplaw35_low.l0 : Nat → List (List Int) → Int → Int → Int → Option (Bool)
 | 0, _, _, _, _ => none
 | k + 1, x0, x1, x2, x7 => if x7 < (x0.length : Int) then (if 0 ≤ x7 then (if ((rd_L1 x0 x7).length : Int) > 14 then (some false) else (kinkeeplaw35_low.l1 k x0 x1 x2 x7 0)) else (none)) else (some (decide ((x0.length : Int) ≤ x1)))
def kinkeeplaw35_low.l1 : Nat → List (List Int) → Int → Int → Int → Int → Option (Bool)
 | 0, _, _, _, _, _ => none
 | k + 1, x0, x1, x2, x7, x8 => if 0 ≤ x7 then (if x7 < (x0.length : Int) then (if x8 < ((rd_L1 x0 x7).length : Int) then (if 0 ≤ x8 then (if (rd (rd_L1 x0 x7) x8) > x2 then (some false) else (kinkeeplaw35_low.l1 k x0 x1 x2 x7 (wrap64 (x8 + 1)))) else (none)) else (kinkeeplaw35_low.l0 k x0 x1 x2 (wrap64 (x7 + 1)))) else (none)) else (none)
end
def kinkeeplaw35_low.f (k : Nat) (l0 : List (List Int)) (a1 : Int) (a2 : Int) : Option (Bool) := kinkeeplaw35_low.l0 k l0 a1 a2 0
theorem kinkeeplaw35_low.mono_l : ∀ k, (∀ y0 y1 y2 y3, LeO (kinkeeplaw35_low.l0 k y0 y1 y2 y3) (kinkeeplaw35_low.l0 (k + 1) y0 y1 y2 y3)) ∧ (∀ y0 y1 y2 y3 y4, LeO (kinkeeplaw35_low.l1 k y0 y1 y2 y3 y4) (kinkeeplaw35_low.l1 (k + 1) y0 y1 y2 y3 y4))
 | 0 => ⟨fun _ _ _ _ r h => by simp [kinkeeplaw35_low.l0] at h, fun _ _ _ _ _ r h => by simp [kinkeeplaw35_low.l1] at h⟩
 | k + 1 => by
  obtain ⟨ih0, ih1⟩ := kinkeeplaw35_low.mono_l k
  refine ⟨?_, ?_⟩
  · intro y0 y1 y2 y3
    unfold kinkeeplaw35_low.l0
    repeat' first
    | (with_reducible exact ih0 _ _ _ _)
    | (with_reducible exact ih1 _ _ _ _ _)
    | (with_reducible exact LeO.refl _)
    | (with_reducible exact LeO.none _)
    | (with_reducible refine LeO.ite ?_ ?_)
    | (with_reducible refine LeO.bind ?_ (fun _ => ?_))
    | exact ih0 _ _ _ _
    | exact ih1 _ _ _ _ _
    | exact LeO.none _
    | refine LeO.ite ?_ ?_
    | refine LeO.bind ?_ (fun _ => ?_)
  · intro y0 y1 y2 y3 y4
    unfold kinkeeplaw35_low.l1
    repeat' first
    | (with_reducible exact ih0 _ _ _ _)
    | (with_reducible exact ih1 _ _ _ _ _)
    | (with_reducible exact LeO.refl _)
    | (with_reducible exact LeO.none _)
    | (with_reducible refine LeO.ite ?_ ?_)
    | (with_reducible refine LeO.bind ?_ (fun _ => ?_))
    | exact ih0 _ _ _ _
    | exact ih1 _ _ _ _ _
    | exact LeO.none _
    | refine LeO.ite ?_ ?_
    | refine LeO.bind ?_ (fun _ => ?_)
theorem kinkeeplaw35_low.mono : ∀ a0 a1 a2 k, LeO (kinkeeplaw35_low.f k a0 a1 a2) (kinkeeplaw35_low.f (k + 1) a0 a1 a2) := by
 intro a0 a1 a2 k
 obtain ⟨ih0, ih1⟩ := kinkeeplaw35_low.mono_l k
 unfold kinkeeplaw35_low.f
 repeat' first
  | (with_reducible exact ih0 _ _ _ _)
  | (with_reducible exact ih1 _ _ _ _ _)
  | (with_reducible exact LeO.refl _)
  | (with_reducible exact LeO.none _)
  | (with_reducible refine LeO.ite ?_ ?_)
  | (with_reducible refine LeO.bind ?_ (fun _ => ?_))
  | exact ih0 _ _ _ _
  | exact ih1 _ _ _ _ _
  | exact LeO.none _
  | refine LeO.ite ?_ ?_
  | refine LeO.bind ?_ (fun _ => ?_)
set_option maxHeartbeats 8000000 in
set_option maxRecDepth 100000 in
theorem kinkeeplaw35_low.calls (k : Nat) (A0 : Option Addr) (c0 : Nat) (l0 : List (List Int)) (a1 : Int) (a2 : Int) (r : Bool) (w : World) (hr0 : Kd.C (Kd.slice 3 (Kd.int .i64)) w A0 l0.length l0) (hc0 : l0.length ≤ c0) (h : kinkeeplaw35_low.f k l0 a1 a2 = some r) :
 Calls Try.prog 19 #[.slice A0 l0.length c0, .int .i64 a1, .int .i64 a2] w fun e w' => e = .returned (.bool r) ∧ Drawn0 w w' := by
 have HR0 := sA hr0
 have HC0 := sA hc0
 clear hr0 hc0
 have H : (kinkeeplaw35_low.l0 k l0 a1 a2 0) = some r := h
 clear h
 have H' := sA H
 clear H
 go_enter Try.func19, Try.ntmps19
 go_wp2
 go_loopg [7] k (fun kq v7 w' => ∃ (x7_1 : Int), v7 = .int .i64 x7_1 ∧ Aside0 (kinkeeplaw35_low.l0 kq l0 a1 a2 x7_1 = some r) ∧ Aside0 (kq ≤ k) ∧ Drawn0 w w')
 case atStart => exact ⟨(0), (upE), H', ⟨Nat.le_refl _⟩, upD⟩
 case round =>
  clear H'
  try clear c1
  try clear p2
  obtain ⟨x7_1, rfl, HA, HK1, ⟨m1, rfl⟩⟩ := hrel
  cases gk with
  | zero => exact absurd HA.out (by simp [kinkeeplaw35_low.l0])
  | succ k1 =>
   have H := HA.out
   clear HA
   simp only [kinkeeplaw35_low.l0] at H
   by_cases c4 : x7_1 < (l0.length : Int)
   · rw [if_pos c4] at H
     have c4b0 : decide (x7_1 < (l0.length : Int)) = true := decide_eq_true c4
     clear c4
     by_cases c5 : 0 ≤ x7_1
     · rw [if_pos c5] at H
       have c5b0 : decide (0 ≤ x7_1) = true := decide_eq_true c5
       clear c5
       by_cases c6 : ((rd_L1 l0 x7_1).length : Int) > 14
       · rw [if_pos c6] at H
         have c6b0 : decide (14 < ((rd_L1 l0 x7_1).length : Int)) = true := decide_eq_true c6
         have c6b1 : decide (14 < (rd_L1 l0 x7_1).length) = true := decide_eq_true (by omega)
         clear c6
         obtain rfl := Option.some.inj H
         have p297 : 0 ≤ (x7_1 : Int) := upA
         have q297 : x7_1 < (l0.length : Int) := upA
         obtain ⟨ad297, A297_0, c297_0, e297, hx297_0, hl297_0, hi297_0⟩ := at_L1 HR0.out x7_1 p297 q297
         cases e297
         have HR297_0 := sA hi297_0
         have HC297_0 := sA hl297_0
         clear hi297_0 hl297_0
         replace p297 := eq_true p297
         replace q297 := eq_true q297
         go_wp2
         go_ret
         exact ⟨upE, upD⟩
       · rw [if_neg c6] at H
         have c6b0 : decide (14 < ((rd_L1 l0 x7_1).length : Int)) = false := decide_eq_false c6
         have c6b1 : decide (14 < (rd_L1 l0 x7_1).length) = false := decide_eq_false (by omega)
         clear c6
         have H' := sA H
         clear H
         have p297 : 0 ≤ (x7_1 : Int) := upA
         have q297 : x7_1 < (l0.length : Int) := upA
         obtain ⟨ad297, A297_0, c297_0, e297, hx297_0, hl297_0, hi297_0⟩ := at_L1 HR0.out x7_1 p297 q297
         cases e297
         have HR297_0 := sA hi297_0
         have HC297_0 := sA hl297_0
         clear hi297_0 hl297_0
         replace p297 := eq_true p297
         replace q297 := eq_true q297
         go_wp2
         go_loopg [8] k1 (fun kq v8 w' => ∃ (x8_2 : Int), v8 = .int .i64 x8_2 ∧ Aside0 (kinkeeplaw35_low.l1 kq l0 a1 a2 x7_1 x8_2 = some r) ∧ Aside0 (kq ≤ k1) ∧ Drawn0 w w')
         case atStart => exact ⟨(0), (upE), H', ⟨Nat.le_refl _⟩, upD⟩
         case round =>
          clear H'
          try clear c1
          try clear c2
          try clear p2
          try clear q2
          try clear hx2
          try clear c4
          try clear c4b0
          try clear c5
          try clear c5b0
          try clear c6
          try clear c6b0
          try clear c6b1
          try clear hx297_0
          try clear p2
          try clear p297
          try clear q297
          obtain ⟨x8_2, rfl, HA, HK2, ⟨m2, rfl⟩⟩ := hrel
          cases gk with
          | zero => exact absurd HA.out (by simp [kinkeeplaw35_low.l1])
          | succ k2 =>
           have H := HA.out
           clear HA
           simp only [kinkeeplaw35_low.l1] at H
           by_cases c7 : 0 ≤ x7_1
           · rw [if_pos c7] at H
             have c7b0 : decide (0 ≤ x7_1) = true := decide_eq_true c7
             clear c7
             by_cases c8 : x7_1 < (l0.length : Int)
             · rw [if_pos c8] at H
               have c8b0 : decide (x7_1 < (l0.length : Int)) = true := decide_eq_true c8
               clear c8
               by_cases c9 : x8_2 < ((rd_L1 l0 x7_1).length : Int)
               · rw [if_pos c9] at H
                 have c9b0 : decide (x8_2 < ((rd_L1 l0 x7_1).length : Int)) = true := decide_eq_true c9
                 clear c9
                 by_cases c10 : 0 ≤ x8_2
                 · rw [if_pos c10] at H
                   have c10b0 : decide (0 ≤ x8_2) = true := decide_eq_true c10
                   clear c10
                   by_cases c11 : (rd (rd_L1 l0 x7_1) x8_2) > a2
                   · rw [if_pos c11] at H
                     have c11b0 : decide (a2 < (rd (rd_L1 l0 x7_1) x8_2)) = true := decide_eq_true c11
                     clear c11
                     obtain rfl := Option.some.inj H
                     have p298 : 0 ≤ (x7_1 : Int) := upA
                     have q298 : x7_1 < (l0.length : Int) := upA
                     obtain ⟨ad298, A298_0, c298_0, e298, hx298_0, hl298_0, hi298_0⟩ := at_L1 HR0.out x7_1 p298 q298
                     obtain rfl : ad297 = ad298 := (by injection e298)
                     have HR298_0 := sA hi298_0
                     have HC298_0 := sA hl298_0
                     clear hi298_0 hl298_0
                     replace p298 := eq_true p298
                     replace q298 := eq_true q298
                     have p299 : 0 ≤ (x7_1 : Int) := upA
                     have q299 : x7_1 < (l0.length : Int) := upA
                     obtain ⟨ad299, A299_0, c299_0, e299, hx299_0, hl299_0, hi299_0⟩ := at_L1 HR0.out x7_1 p299 q299
                     obtain rfl : ad297 = ad299 := (by injection e299)
                     have HR299_0 := sA hi299_0
                     have HC299_0 := sA hl299_0
                     clear hi299_0 hl299_0
                     replace p299 := eq_true p299
                     replace q299 := eq_true q299
                     have ea_ := Option.some.inj (hx298_0.symm.trans hx299_0)
                     injection ea_ with ea_ en_ ec_
                     subst ea_
                     subst ec_
                     clear en_
                     have p300 : 0 ≤ (x8_2 : Int) := upA
                     have q300 : x8_2 < ((rd_L1 l0 x7_1).length : Int) := upA
                     obtain ⟨ad300, e300, hx300_0⟩ := Kd.at_int HR299_0.out x8_2 p300 q300
                     cases e300
                     replace p300 := eq_true p300
                     replace q300 := eq_true q300
                     go_wp2
                     go_ret
                     exact ⟨upE, upD⟩
                   · rw [if_neg c11] at H
                     have c11b0 : decide (a2 < (rd (rd_L1 l0 x7_1) x8_2)) = false := decide_eq_false c11
                     clear c11
                     have H' := sA H
                     clear H
                     have p298 : 0 ≤ (x7_1 : Int) := upA
                     have q298 : x7_1 < (l0.length : Int) := upA
                     obtain ⟨ad298, A298_0, c298_0, e298, hx298_0, hl298_0, hi298_0⟩ := at_L1 HR0.out x7_1 p298 q298
                     obtain rfl : ad297 = ad298 := (by injection e298)
                     have HR298_0 := sA hi298_0
                     have HC298_0 := sA hl298_0
                     clear hi298_0 hl298_0
                     replace p298 := eq_true p298
                     replace q298 := eq_true q298
                     have p299 : 0 ≤ (x7_1 : Int) := upA
                     have q299 : x7_1 < (l0.length : Int) := upA
                     obtain ⟨ad299, A299_0, c299_0, e299, hx299_0, hl299_0, hi299_0⟩ := at_L1 HR0.out x7_1 p299 q299
                     obtain rfl : ad297 = ad299 := (by injection e299)
                     have HR299_0 := sA hi299_0
                     have HC299_0 := sA hl299_0
                     clear hi299_0 hl299_0
                     replace p299 := eq_true p299
                     replace q299 := eq_true q299
                     have ea_ := Option.some.inj (hx298_0.symm.trans hx299_0)
                     injection ea_ with ea_ en_ ec_
                     subst ea_
                     subst ec_
                     clear en_
                     have p300 : 0 ≤ (x8_2 : Int) := upA
                     have q300 : x8_2 < ((rd_L1 l0 x7_1).length : Int) := upA
                     obtain ⟨ad300, e300, hx300_0⟩ := Kd.at_int HR299_0.out x8_2 p300 q300
                     cases e300
                     replace p300 := eq_true p300
                     replace q300 := eq_true q300
                     go_wp2
                     go_roundg k2
                     case measure => have := HK1.out; have := HK2.out; omega
                     case rel => exact ⟨(wrap64 (x8_2 + 1)), (upE), H', ⟨by have := HK1.out; have := HK2.out; omega⟩, upD⟩
                 · rw [if_neg c10] at H
                   exact absurd H (by simp)
               · rw [if_neg c9] at H
                 have c9b0 : decide (x8_2 < ((rd_L1 l0 x7_1).length : Int)) = false := decide_eq_false c9
                 clear c9
                 have H' := sA H
                 clear H
                 have p298 : 0 ≤ (x7_1 : Int) := upA
                 have q298 : x7_1 < (l0.length : Int) := upA
                 obtain ⟨ad298, A298_0, c298_0, e298, hx298_0, hl298_0, hi298_0⟩ := at_L1 HR0.out x7_1 p298 q298
                 obtain rfl : ad297 = ad298 := (by injection e298)
                 have HR298_0 := sA hi298_0
                 have HC298_0 := sA hl298_0
                 clear hi298_0 hl298_0
                 replace p298 := eq_true p298
                 replace q298 := eq_true q298
                 go_wp2
                 go_roundg k2
                 case measure => have := HK1.out; have := HK2.out; omega
                 case rel => exact ⟨(wrap64 (x7_1 + 1)), (upE), H', ⟨by have := HK1.out; have := HK2.out; omega⟩, upD⟩
             · rw [if_neg c8] at H
               exact absurd H (by simp)
           · rw [if_neg c7] at H
             exact absurd H (by simp)
     · rw [if_neg c5] at H
       exact absurd H (by simp)
   · rw [if_neg c4] at H
     have c4b0 : decide (x7_1 < (l0.length : Int)) = false := decide_eq_false c4
     clear c4
     obtain rfl := Option.some.inj H
     go_wp2
     go_ret
     exact ⟨upE, upD⟩
end Go.Proofs.Ytdljbmgknhbceaa.Q
namespace Go.Proofs.Ytdljbmgknhbceaa.Q
open Go.RowKit Go.Proofs.YtdljbmgknhbceaaW.PrintWords Go.Proofs.YtdljbmgknhbceaaW.PrintLast Go.Proofs.YtdljbmgknhbceaaW.PrintMore
attribute [local go_sem] max2_int min2_int max_two min_two max_three min_three max_four min_four
def kinkeepref35_within.f (a0 : Int) : Option (Bool) := if a0 ≥ 0 then (some (decide (a0 ≤ 1099511627776))) else (some false)
set_option maxHeartbeats 8000000 in
set_option maxRecDepth 100000 in
theorem kinkeepref35_within.calls (a0 : Int) (r : Bool) (w : World) (h : kinkeepref35_within.f a0 = some r) :
 Calls Try.prog 53 #[.int .i64 a0] w fun e w' => e = .returned (.bool r) ∧ Drawn0 w w' := by
 have H : (if a0 ≥ 0 then (some (decide (a0 ≤ 1099511627776))) else (some false)) = some r := h
 clear h
 by_cases c2 : a0 ≥ 0
 · rw [if_pos c2] at H
   have c2b0 : decide (0 ≤ a0) = true := decide_eq_true c2
   clear c2
   obtain rfl := Option.some.inj H
   go_enter Try.func53, Try.ntmps53
   go_wp2
   go_ret
   exact ⟨upE, upD⟩
 · rw [if_neg c2] at H
   have c2b0 : decide (0 ≤ a0) = false := decide_eq_false c2
   clear c2
   obtain rfl := Option.some.inj H
   go_enter Try.func53, Try.ntmps53
   go_wp2
   go_ret
   exact ⟨upE, upD⟩
end Go.Proofs.Ytdljbmgknhbceaa.Q
namespace Go.Proofs.Ytdljbmgknhbceaa.Q
open Go.RowKit Go.Proofs.YtdljbmgknhbceaaW.PrintWords Go.Proofs.YtdljbmgknhbceaaW.PrintLast Go.Proofs.YtdljbmgknhbceaaW.PrintMore
attribute [local go_sem] max2_int min2_int max_two min_two max_three min_three max_four min_four
mutual
def kinkeepref35_Valid.l0 : Nat → List (List Int) → Int → Option (Bool)
 | 0, _, _ => none
 | k + 1, x0, x3 => if x3 < (x0.length : Int) then (if 0 ≤ x3 then (if ((rd_L1 x0 x3).length : Int) = (x0.length : Int) then (kinkeepref35_Valid.l1 k x0 x3 0) else (some false)) else (none)) else (some (decide ((x0.length : Int) ≤ 12)))
def kinkeepref35_Valid.l1 : Nat → List (List Int) → Int → Int → Option (Bool)
 | 0, _, _, _ => none
 | k + 1, x0, x3, x4 => if x4 < (x0.length : Int) then (if 0 ≤ x3 then (if x3 < (x0.length : Int) then (if 0 ≤ x4 then (if x4 < ((rd_L1 x0 x3).length : Int) then ((kinkeepref35_within.f (rd (rd_L1 x0 x3) x4)).bind fun t383 => (if t383 = true then (if x3 = x4 then (if (rd (rd_L1 x0 x3) x4) = 0 then (kinkeepref35_Valid.l1 k x0 x3 (wrap64 (x4 + 1))) else (some false)) else (kinkeepref35_Valid.l1 k x0 x3 (wrap64 (x4 + 1)))) else (some false))) else (none)) else (none)) else (none)) else (none)) else (kinkeepref35_Valid.l0 k x0 (wrap64 (x3 + 1)))
end
def kinkeepref35_Valid.f (k : Nat) (l0 : List (List Int)) : Option (Bool) := kinkeepref35_Valid.l0 k l0 0
theorem kinkeepref35_Valid.mono_l : ∀ k, (∀ y0 y1, LeO (kinkeepref35_Valid.l0 k y0 y1) (kinkeepref35_Valid.l0 (k + 1) y0 y1)) ∧ (∀ y0 y1 y2, LeO (kinkeepref35_Valid.l1 k y0 y1 y2) (kinkeepref35_Valid.l1 (k + 1) y0 y1 y2))
 | 0 => ⟨fun _ _ r h => by simp [kinkeepref35_Valid.l0] at h, fun _ _ _ r h => by simp [kinkeepref35_Valid.l1] at h⟩
 | k + 1 => by
  obtain ⟨ih0, ih1⟩ := kinkeepref35_Valid.mono_l k
  refine ⟨?_, ?_⟩
  · intro y0 y1
    unfold kinkeepref35_Valid.l0
    repeat' first
    | (with_reducible exact ih0 _ _)
    | (with_reducible exact ih1 _ _ _)
    | (with_reducible exact LeO.refl _)
    | (with_reducible exact LeO.none _)
    | (with_reducible refine LeO.ite ?_ ?_)
    | (with_reducible refine LeO.bind ?_ (fun _ => ?_))
    | exact ih0 _ _
    | exact ih1 _ _ _
    | exact LeO.none _
    | refine LeO.ite ?_ ?_
    | refine LeO.bind ?_ (fun _ => ?_)
  · intro y0 y1 y2
    unfold kinkeepref35_Valid.l1
    repeat' first
    | (with_reducible exact ih0 _ _)
    | (with_reducible exact ih1 _ _ _)
    | (with_reducible exact LeO.refl _)
    | (with_reducible exact LeO.none _)
    | (with_reducible refine LeO.ite ?_ ?_)
    | (with_reducible refine LeO.bind ?_ (fun _ => ?_))
    | exact ih0 _ _
    | exact ih1 _ _ _
    | exact LeO.none _
    | refine LeO.ite ?_ ?_
    | refine LeO.bind ?_ (fun _ => ?_)
theorem kinkeepref35_Valid.mono : ∀ a0 k, LeO (kinkeepref35_Valid.f k a0) (kinkeepref35_Valid.f (k + 1) a0) := by
 intro a0 k
 obtain ⟨ih0, ih1⟩ := kinkeepref35_Valid.mono_l k
 unfold kinkeepref35_Valid.f
 repeat' first
  | (with_reducible exact ih0 _ _)
  | (with_reducible exact ih1 _ _ _)
  | (with_reducible exact LeO.refl _)
  | (with_reducible exact LeO.none _)
  | (with_reducible refine LeO.ite ?_ ?_)
  | (with_reducible refine LeO.bind ?_ (fun _ => ?_))
  | exact ih0 _ _
  | exact ih1 _ _ _
  | exact LeO.none _
  | refine LeO.ite ?_ ?_
  | refine LeO.bind ?_ (fun _ => ?_)
set_option maxHeartbeats 8000000 in
set_option maxRecDepth 100000 in
theorem kinkeepref35_Valid.calls (k : Nat) (A0 : Option Addr) (c0 : Nat) (l0 : List (List Int)) (r : Bool) (w : World) (hr0 : Kd.C (Kd.slice 3 (Kd.int .i64)) w A0 l0.length l0) (hc0 : l0.length ≤ c0) (h : kinkeepref35_Valid.f k l0 = some r) :
 Calls Try.prog 23 #[.slice A0 l0.length c0] w fun e w' => e = .returned (.bool r) ∧ Drawn0 w w' := by
 have HR0 := sA hr0
 have HC0 := sA hc0
 clear hr0 hc0
 have H : (kinkeepref35_Valid.l0 k l0 0) = some r := h
 clear h
 have H' := sA H
 clear H
 go_enter Try.func23, Try.ntmps23
 go_wp2
 go_loopg [3] k (fun kq v3 w' => ∃ (x3_1 : Int), v3 = .int .i64 x3_1 ∧ Aside0 (kinkeepref35_Valid.l0 kq l0 x3_1 = some r) ∧ Aside0 (kq ≤ k) ∧ Drawn0 w w')
 case atStart => exact ⟨(0), (upE), H', ⟨Nat.le_refl _⟩, upD⟩
 case round =>
  clear H'
  obtain ⟨x3_1, rfl, HA, HK1, ⟨m1, rfl⟩⟩ := hrel
  cases gk with
  | zero => exact absurd HA.out (by simp [kinkeepref35_Valid.l0])
  | succ k1 =>
   have H := HA.out
   clear HA
   simp only [kinkeepref35_Valid.l0] at H
   by_cases c2 : x3_1 < (l0.length : Int)
   · rw [if_pos c2] at H
     have c2b0 : decide (x3_1 < (l0.length : Int)) = true := decide_eq_true c2
     clear c2
     by_cases c3 : 0 ≤ x3_1
     · rw [if_pos c3] at H
       have c3b0 : decide (0 ≤ x3_1) = true := decide_eq_true c3
       clear c3
       by_cases c4 : ((rd_L1 l0 x3_1).length : Int) = (l0.length : Int)
       · rw [if_pos c4] at H
         have c4b0 : (((rd_L1 l0 x3_1).length : Int) == (l0.length : Int)) = true := beq_iff_eq.mpr c4
         have c4b1 : (((rd_L1 l0 x3_1).length : Int) != (l0.length : Int)) = false := bne_eq_false_iff_eq.mpr c4
         have c4b2 : ((rd_L1 l0 x3_1).length == l0.length) = true := by first | simpa using c4 | (simp at c4 ⊢; omega)
         clear c4
         have H' := sA H
         clear H
         have p380 : 0 ≤ (x3_1 : Int) := upA
         have q380 : x3_1 < (l0.length : Int) := upA
         obtain ⟨ad380, A380_0, c380_0, e380, hx380_0, hl380_0, hi380_0⟩ := at_L1 HR0.out x3_1 p380 q380
         cases e380
         have HR380_0 := sA hi380_0
         have HC380_0 := sA hl380_0
         clear hi380_0 hl380_0
         replace p380 := eq_true p380
         replace q380 := eq_true q380
         go_wp2
         go_loopg [4] k1 (fun kq v4 w' => ∃ (x4_2 : Int), v4 = .int .i64 x4_2 ∧ Aside0 (kinkeepref35_Valid.l1 kq l0 x3_1 x4_2 = some r) ∧ Aside0 (kq ≤ k1) ∧ Drawn0 w w')
         case atStart => exact ⟨(0), (upE), H', ⟨Nat.le_refl _⟩, upD⟩
         case round =>
          clear H'
          try clear c2
          try clear c2b0
          try clear p2
          try clear c3
          try clear c3b0
          try clear p3
          try clear q3
          try clear hx3
          try clear c4
          try clear c4b0
          try clear c4b1
          try clear c4b2
          try clear hx380_0
          try clear p380
          try clear q380
          obtain ⟨x4_2, rfl, HA, HK2, ⟨m2, rfl⟩⟩ := hrel
          cases gk with
          | zero => exact absurd HA.out (by simp [kinkeepref35_Valid.l1])
          | succ k2 =>
           have H := HA.out
           clear HA
           simp only [kinkeepref35_Valid.l1] at H
           by_cases c5 : x4_2 < (l0.length : Int)
           · rw [if_pos c5] at H
             have c5b0 : decide (x4_2 < (l0.length : Int)) = true := decide_eq_true c5
             clear c5
             by_cases c6 : 0 ≤ x3_1
             · rw [if_pos c6] at H
               have c6b0 : decide (0 ≤ x3_1) = true := decide_eq_true c6
               clear c6
               by_cases c7 : x3_1 < (l0.length : Int)
               · rw [if_pos c7] at H
                 have c7b0 : decide (x3_1 < (l0.length : Int)) = true := decide_eq_true c7
                 clear c7
                 by_cases c8 : 0 ≤ x4_2
                 · rw [if_pos c8] at H
                   have c8b0 : decide (0 ≤ x4_2) = true := decide_eq_true c8
                   clear c8
                   by_cases c9 : x4_2 < ((rd_L1 l0 x3_1).length : Int)
                   · rw [if_pos c9] at H
                     have c9b0 : decide (x4_2 < ((rd_L1 l0 x3_1).length : Int)) = true := decide_eq_true c9
                     clear c9
                     replace H := Option.bind_eq_some_iff.mp H
                     obtain ⟨t383, A100, H⟩ := H
                     replace H : (if t383 = true then (if x3_1 = x4_2 then (if (rd (rd_L1 l0 x3_1) x4_2) = 0 then (kinkeepref35_Valid.l1 k2 l0 x3_1 (wrap64 (x4_2 + 1))) else (some false)) else (kinkeepref35_Valid.l1 k2 l0 x3_1 (wrap64 (x4_2 + 1)))) else (some false)) = some r := H
                     have A10 := sA A100
                     clear A100
                     by_cases c11 : t383 = true
                     · subst c11
                       have H1 : (if x3_1 = x4_2 then (if (rd (rd_L1 l0 x3_1) x4_2) = 0 then (kinkeepref35_Valid.l1 k2 l0 x3_1 (wrap64 (x4_2 + 1))) else (some false)) else (kinkeepref35_Valid.l1 k2 l0 x3_1 (wrap64 (x4_2 + 1)))) = some r := by rw [if_pos rfl] at H; exact H
                       clear H
                       have H := H1
                       clear H1
                       by_cases c12 : x3_1 = x4_2
                       · rw [if_pos c12] at H
                         have c12b0 : (x3_1 == x4_2) = true := beq_iff_eq.mpr c12
                         have c12b1 : (x3_1 != x4_2) = false := bne_eq_false_iff_eq.mpr c12
                         clear c12
                         by_cases c13 : (rd (rd_L1 l0 x3_1) x4_2) = 0
                         · rw [if_pos c13] at H
                           have c13b0 : ((rd (rd_L1 l0 x3_1) x4_2) == 0) = true := beq_iff_eq.mpr c13
                           have c13b1 : ((rd (rd_L1 l0 x3_1) x4_2) != 0) = false := bne_eq_false_iff_eq.mpr c13
                           clear c13
                           have H' := sA H
                           clear H
                           have p381 : 0 ≤ (x3_1 : Int) := upA
                           have q381 : x3_1 < (l0.length : Int) := upA
                           obtain ⟨ad381, A381_0, c381_0, e381, hx381_0, hl381_0, hi381_0⟩ := at_L1 HR0.out x3_1 p381 q381
                           obtain rfl : ad380 = ad381 := (by injection e381)
                           have HR381_0 := sA hi381_0
                           have HC381_0 := sA hl381_0
                           clear hi381_0 hl381_0
                           replace p381 := eq_true p381
                           replace q381 := eq_true q381
                           have p382 : 0 ≤ (x4_2 : Int) := upA
                           have q382 : x4_2 < ((rd_L1 l0 x3_1).length : Int) := upA
                           obtain ⟨ad382, e382, hx382_0⟩ := Kd.at_int HR381_0.out x4_2 p382 q382
                           cases e382
                           replace p382 := eq_true p382
                           replace q382 := eq_true q382
                           go_wp2_with (first | ((with_reducible refine gate_callee (f := 53) rfl ?_); refine goesL_ (some 32) rfl rfl Try.func53 (by kernel_rfl) rfl #[.int .i64 (rd (rd_L1 l0 x3_1) x4_2)] rfl upM ?_; (with_reducible refine (kinkeepref35_within.calls (rd (rd_L1 l0 x3_1) x4_2) true _ A10.out).mono ?_); rintro e w' ⟨rfl, ⟨nd, rfl⟩⟩; refine ⟨_, rfl, ?_⟩; have p384 : 0 ≤ (x3_1 : Int) := upA; have q384 : x3_1 < (l0.length : Int) := upA; obtain ⟨ad384, A384_0, c384_0, e384, hx384_0, hl384_0, hi384_0⟩ := at_L1 HR0.out x3_1 p384 q384; obtain rfl : ad380 = ad384 := (by injection e384); have HR384_0 := sA hi384_0; have HC384_0 := sA hl384_0; clear hi384_0 hl384_0; replace p384 := eq_true p384; replace q384 := eq_true q384; have ea_ := Option.some.inj (hx381_0.symm.trans hx384_0); injection ea_ with ea_ en_ ec_; subst ea_; subst ec_; clear en_; have p385 : 0 ≤ (x4_2 : Int) := upA; have q385 : x4_2 < ((rd_L1 l0 x3_1).length : Int) := upA; obtain ⟨ad385, e385, hx385_0⟩ := Kd.at_int HR384_0.out x4_2 p385 q385; cases e385; replace p385 := eq_true p385; replace q385 := eq_true q385))
                           go_roundg k2
                           case measure => have := HK1.out; have := HK2.out; omega
                           case rel => exact ⟨(wrap64 (x4_2 + 1)), (upE), H', ⟨by have := HK1.out; have := HK2.out; omega⟩, upD⟩
                         · rw [if_neg c13] at H
                           have c13b0 : ((rd (rd_L1 l0 x3_1) x4_2) == 0) = false := beq_eq_false_iff_ne.mpr c13
                           have c13b1 : ((rd (rd_L1 l0 x3_1) x4_2) != 0) = true := bne_iff_ne.mpr c13
                           obtain rfl := Option.some.inj H
                           have p381 : 0 ≤ (x3_1 : Int) := upA
                           have q381 : x3_1 < (l0.length : Int) := upA
                           obtain ⟨ad381, A381_0, c381_0, e381, hx381_0, hl381_0, hi381_0⟩ := at_L1 HR0.out x3_1 p381 q381
                           obtain rfl : ad380 = ad381 := (by injection e381)
                           have HR381_0 := sA hi381_0
                           have HC381_0 := sA hl381_0
                           clear hi381_0 hl381_0
                           replace p381 := eq_true p381
                           replace q381 := eq_true q381
                           have p382 : 0 ≤ (x4_2 : Int) := upA
                           have q382 : x4_2 < ((rd_L1 l0 x3_1).length : Int) := upA
                           obtain ⟨ad382, e382, hx382_0⟩ := Kd.at_int HR381_0.out x4_2 p382 q382
                           cases e382
                           replace p382 := eq_true p382
                           replace q382 := eq_true q382
                           go_wp2_with (first | ((with_reducible refine gate_callee (f := 53) rfl ?_); refine goesL_ (some 32) rfl rfl Try.func53 (by kernel_rfl) rfl #[.int .i64 (rd (rd_L1 l0 x3_1) x4_2)] rfl upM ?_; (with_reducible refine (kinkeepref35_within.calls (rd (rd_L1 l0 x3_1) x4_2) true _ A10.out).mono ?_); rintro e w' ⟨rfl, ⟨nd, rfl⟩⟩; refine ⟨_, rfl, ?_⟩; have p384 : 0 ≤ (x3_1 : Int) := upA; have q384 : x3_1 < (l0.length : Int) := upA; obtain ⟨ad384, A384_0, c384_0, e384, hx384_0, hl384_0, hi384_0⟩ := at_L1 HR0.out x3_1 p384 q384; obtain rfl : ad380 = ad384 := (by injection e384); have HR384_0 := sA hi384_0; have HC384_0 := sA hl384_0; clear hi384_0 hl384_0; replace p384 := eq_true p384; replace q384 := eq_true q384; have ea_ := Option.some.inj (hx381_0.symm.trans hx384_0); injection ea_ with ea_ en_ ec_; subst ea_; subst ec_; clear en_; have p385 : 0 ≤ (x4_2 : Int) := upA; have q385 : x4_2 < ((rd_L1 l0 x3_1).length : Int) := upA; obtain ⟨ad385, e385, hx385_0⟩ := Kd.at_int HR384_0.out x4_2 p385 q385; cases e385; replace p385 := eq_true p385; replace q385 := eq_true q385))
                           go_ret
                           exact ⟨upE, upD⟩
                       · rw [if_neg c12] at H
                         have c12b0 : (x3_1 == x4_2) = false := beq_eq_false_iff_ne.mpr c12
                         have c12b1 : (x3_1 != x4_2) = true := bne_iff_ne.mpr c12
                         have H' := sA H
                         clear H
                         have p381 : 0 ≤ (x3_1 : Int) := upA
                         have q381 : x3_1 < (l0.length : Int) := upA
                         obtain ⟨ad381, A381_0, c381_0, e381, hx381_0, hl381_0, hi381_0⟩ := at_L1 HR0.out x3_1 p381 q381
                         obtain rfl : ad380 = ad381 := (by injection e381)
                         have HR381_0 := sA hi381_0
                         have HC381_0 := sA hl381_0
                         clear hi381_0 hl381_0
                         replace p381 := eq_true p381
                         replace q381 := eq_true q381
                         have p382 : 0 ≤ (x4_2 : Int) := upA
                         have q382 : x4_2 < ((rd_L1 l0 x3_1).length : Int) := upA
                         obtain ⟨ad382, e382, hx382_0⟩ := Kd.at_int HR381_0.out x4_2 p382 q382
                         cases e382
                         replace p382 := eq_true p382
                         replace q382 := eq_true q382
                         go_wp2_with (first | ((with_reducible refine gate_callee (f := 53) rfl ?_); refine goesL_ (some 32) rfl rfl Try.func53 (by kernel_rfl) rfl #[.int .i64 (rd (rd_L1 l0 x3_1) x4_2)] rfl upM ?_; (with_reducible refine (kinkeepref35_within.calls (rd (rd_L1 l0 x3_1) x4_2) true _ A10.out).mono ?_); rintro e w' ⟨rfl, ⟨nd, rfl⟩⟩; refine ⟨_, rfl, ?_⟩))
                         go_roundg k2
                         case measure => have := HK1.out; have := HK2.out; omega
                         case rel => exact ⟨(wrap64 (x4_2 + 1)), (upE), H', ⟨by have := HK1.out; have := HK2.out; omega⟩, upD⟩
                     · replace c11 := Bool.eq_false_iff.mpr c11
                       subst c11
                       have H1 : (some false) = some r := by rw [if_neg (show ¬ (false = true) by decide)] at H; exact H
                       clear H
                       have H := H1
                       clear H1
                       obtain rfl := Option.some.inj H
                       have p381 : 0 ≤ (x3_1 : Int) := upA
                       have q381 : x3_1 < (l0.length : Int) := upA
                       obtain ⟨ad381, A381_0, c381_0, e381, hx381_0, hl381_0, hi381_0⟩ := at_L1 HR0.out x3_1 p381 q381
                       obtain rfl : ad380 = ad381 := (by injection e381)
                       have HR381_0 := sA hi381_0
                       have HC381_0 := sA hl381_0
                       clear hi381_0 hl381_0
                       replace p381 := eq_true p381
                       replace q381 := eq_true q381
                       have p382 : 0 ≤ (x4_2 : Int) := upA
                       have q382 : x4_2 < ((rd_L1 l0 x3_1).length : Int) := upA
                       obtain ⟨ad382, e382, hx382_0⟩ := Kd.at_int HR381_0.out x4_2 p382 q382
                       cases e382
                       replace p382 := eq_true p382
                       replace q382 := eq_true q382
                       go_wp2_with (first | ((with_reducible refine gate_callee (f := 53) rfl ?_); refine goesL_ (some 32) rfl rfl Try.func53 (by kernel_rfl) rfl #[.int .i64 (rd (rd_L1 l0 x3_1) x4_2)] rfl upM ?_; (with_reducible refine (kinkeepref35_within.calls (rd (rd_L1 l0 x3_1) x4_2) false _ A10.out).mono ?_); rintro e w' ⟨rfl, ⟨nd, rfl⟩⟩; refine ⟨_, rfl, ?_⟩))
                       go_ret
                       exact ⟨upE, upD⟩
                   · rw [if_neg c9] at H
                     exact absurd H (by simp)
                 · rw [if_neg c8] at H
                   exact absurd H (by simp)
               · rw [if_neg c7] at H
                 exact absurd H (by simp)
             · rw [if_neg c6] at H
               exact absurd H (by simp)
           · rw [if_neg c5] at H
             have c5b0 : decide (x4_2 < (l0.length : Int)) = false := decide_eq_false c5
             clear c5
             have H' := sA H
             clear H
             go_wp2
             go_roundg k2
             case measure => have := HK1.out; have := HK2.out; omega
             case rel => exact ⟨(wrap64 (x3_1 + 1)), (upE), H', ⟨by have := HK1.out; have := HK2.out; omega⟩, upD⟩
       · rw [if_neg c4] at H
         have c4b0 : (((rd_L1 l0 x3_1).length : Int) == (l0.length : Int)) = false := beq_eq_false_iff_ne.mpr c4
         have c4b1 : (((rd_L1 l0 x3_1).length : Int) != (l0.length : Int)) = true := bne_iff_ne.mpr c4
         have c4b2 : ((rd_L1 l0 x3_1).length == l0.length) = false := by first | simpa using c4 | (simp at c4 ⊢; omega)
         obtain rfl := Option.some.inj H
         have p380 : 0 ≤ (x3_1 : Int) := upA
         have q380 : x3_1 < (l0.length : Int) := upA
         obtain ⟨ad380, A380_0, c380_0, e380, hx380_0, hl380_0, hi380_0⟩ := at_L1 HR0.out x3_1 p380 q380
         cases e380
         have HR380_0 := sA hi380_0
         have HC380_0 := sA hl380_0
         clear hi380_0 hl380_0
         replace p380 := eq_true p380
         replace q380 := eq_true q380
         go_wp2
         go_ret
         exact ⟨upE, upD⟩
     · rw [if_neg c3] at H
       exact absurd H (by simp)
   · rw [if_neg c2] at H
     have c2b0 : decide (x3_1 < (l0.length : Int)) = false := decide_eq_false c2
     clear c2
     obtain rfl := Option.some.inj H
     go_wp2
     go_ret
     exact ⟨upE, upD⟩
end Go.Proofs.Ytdljbmgknhbceaa.Q
namespace Go.Proofs.Ytdljbmgknhbceaa.Q
open Go.RowKit Go.Proofs.YtdljbmgknhbceaaW.PrintWords Go.Proofs.YtdljbmgknhbceaaW.PrintLast Go.Proofs.YtdljbmgknhbceaaW.PrintMore
attribute [local go_sem] max2_int min2_int max_two min_two max_three min_three max_four min_four
def kinkeepref35_Quotas.l0 : Nat → List (List Int) → List Int → Int → Option (Bool)
 | 0, _, _, _ => none
 | k + 1, x0, x1, x5 => if x5 < (x1.length : Int) then (if 0 ≤ x5 then ((kinkeepref35_within.f (rd x1 x5)).bind fun t387 => (if t387 = true then (kinkeepref35_Quotas.l0 k x0 x1 (wrap64 (x5 + 1))) else (some false))) else (none)) else (some ((x1.length : Int) == (x0.length : Int)))
def kinkeepref35_Quotas.f (k : Nat) (l0 : List (List Int)) (l1 : List Int) : Option (Bool) := kinkeepref35_Quotas.l0 k l0 l1 0
theorem kinkeepref35_Quotas.mono_l : ∀ k, (∀ y0 y1 y2, LeO (kinkeepref35_Quotas.l0 k y0 y1 y2) (kinkeepref35_Quotas.l0 (k + 1) y0 y1 y2))
 | 0 => fun _ _ _ r h => by simp [kinkeepref35_Quotas.l0] at h
 | k + 1 => by
  have ih0 := kinkeepref35_Quotas.mono_l k
  · intro y0 y1 y2
    unfold kinkeepref35_Quotas.l0
    repeat' first
    | (with_reducible exact ih0 _ _ _)
    | (with_reducible exact LeO.refl _)
    | (with_reducible exact LeO.none _)
    | (with_reducible refine LeO.ite ?_ ?_)
    | (with_reducible refine LeO.bind ?_ (fun _ => ?_))
    | exact ih0 _ _ _
    | exact LeO.none _
    | refine LeO.ite ?_ ?_
    | refine LeO.bind ?_ (fun _ => ?_)
theorem kinkeepref35_Quotas.mono : ∀ a0 a1 k, LeO (kinkeepref35_Quotas.f k a0 a1) (kinkeepref35_Quotas.f (k + 1) a0 a1) := by
 intro a0 a1 k
 have ih0 := kinkeepref35_Quotas.mono_l k
 unfold kinkeepref35_Quotas.f
 repeat' first
  | (with_reducible exact ih0 _ _ _)
  | (with_reducible exact LeO.refl _)
  | (with_reducible exact LeO.none _)
  | (with_reducible refine LeO.ite ?_ ?_)
  | (with_reducible refine LeO.bind ?_ (fun _ => ?_))
  | exact ih0 _ _ _
  | exact LeO.none _
  | refine LeO.ite ?_ ?_
  | refine LeO.bind ?_ (fun _ => ?_)
set_option maxHeartbeats 8000000 in
set_option maxRecDepth 100000 in
theorem kinkeepref35_Quotas.calls (k : Nat) (A0 : Option Addr) (c0 : Nat) (l0 : List (List Int)) (A1 : Option Addr) (c1 : Nat) (l1 : List Int) (r : Bool) (w : World) (hr0 : Kd.C (Kd.slice 3 (Kd.int .i64)) w A0 l0.length l0) (hc0 : l0.length ≤ c0) (hr1 : Kd.C (Kd.int .i64) w A1 l1.length l1) (hc1 : l1.length ≤ c1) (h : kinkeepref35_Quotas.f k l0 l1 = some r) :
 Calls Try.prog 24 #[.slice A0 l0.length c0, .slice A1 l1.length c1] w fun e w' => e = .returned (.bool r) ∧ Drawn0 w w' := by
 have HR0 := sA hr0
 have HC0 := sA hc0
 clear hr0 hc0
 have HR1 := sA hr1
 have HC1 := sA hc1
 clear hr1 hc1
 have H : (kinkeepref35_Quotas.l0 k l0 l1 0) = some r := h
 clear h
 have H' := sA H
 clear H
 go_enter Try.func24, Try.ntmps24
 go_wp2
 go_loopg [5] k (fun kq v5 w' => ∃ (x5_1 : Int), v5 = .int .i64 x5_1 ∧ Aside0 (kinkeepref35_Quotas.l0 kq l0 l1 x5_1 = some r) ∧ Aside0 (kq ≤ k) ∧ Drawn0 w w')
 case atStart => exact ⟨(0), (upE), H', ⟨Nat.le_refl _⟩, upD⟩
 case round =>
  clear H'
  try clear c1
  try clear c2
  try clear p2
  obtain ⟨x5_1, rfl, HA, HK1, ⟨m1, rfl⟩⟩ := hrel
  cases gk with
  | zero => exact absurd HA.out (by simp [kinkeepref35_Quotas.l0])
  | succ k1 =>
   have H := HA.out
   clear HA
   simp only [kinkeepref35_Quotas.l0] at H
   by_cases c3 : x5_1 < (l1.length : Int)
   · rw [if_pos c3] at H
     have c3b0 : decide (x5_1 < (l1.length : Int)) = true := decide_eq_true c3
     clear c3
     by_cases c4 : 0 ≤ x5_1
     · rw [if_pos c4] at H
       have c4b0 : decide (0 ≤ x5_1) = true := decide_eq_true c4
       clear c4
       replace H := Option.bind_eq_some_iff.mp H
       obtain ⟨t387, A50, H⟩ := H
       replace H : (if t387 = true then (kinkeepref35_Quotas.l0 k1 l0 l1 (wrap64 (x5_1 + 1))) else (some false)) = some r := H
       have A5 := sA A50
       clear A50
       by_cases c6 : t387 = true
       · subst c6
         have H1 : (kinkeepref35_Quotas.l0 k1 l0 l1 (wrap64 (x5_1 + 1))) = some r := by rw [if_pos rfl] at H; exact H
         clear H
         have H := H1
         clear H1
         have H' := sA H
         clear H
         have p386 : 0 ≤ (x5_1 : Int) := upA
         have q386 : x5_1 < (l1.length : Int) := upA
         obtain ⟨ad386, e386, hx386_0⟩ := Kd.at_int HR1.out x5_1 p386 q386
         cases e386
         replace p386 := eq_true p386
         replace q386 := eq_true q386
         go_wp2_with (first | ((with_reducible refine gate_callee (f := 53) rfl ?_); refine goesL_ (some 16) rfl rfl Try.func53 (by kernel_rfl) rfl #[.int .i64 (rd l1 x5_1)] rfl upM ?_; (with_reducible refine (kinkeepref35_within.calls (rd l1 x5_1) true _ A5.out).mono ?_); rintro e w' ⟨rfl, ⟨nd, rfl⟩⟩; refine ⟨_, rfl, ?_⟩))
         go_roundg k1
         case measure => have := HK1.out; omega
         case rel => exact ⟨(wrap64 (x5_1 + 1)), (upE), H', ⟨by have := HK1.out; omega⟩, upD⟩
       · replace c6 := Bool.eq_false_iff.mpr c6
         subst c6
         have H1 : (some false) = some r := by rw [if_neg (show ¬ (false = true) by decide)] at H; exact H
         clear H
         have H := H1
         clear H1
         obtain rfl := Option.some.inj H
         have p386 : 0 ≤ (x5_1 : Int) := upA
         have q386 : x5_1 < (l1.length : Int) := upA
         obtain ⟨ad386, e386, hx386_0⟩ := Kd.at_int HR1.out x5_1 p386 q386
         cases e386
         replace p386 := eq_true p386
         replace q386 := eq_true q386
         go_wp2_with (first | ((with_reducible refine gate_callee (f := 53) rfl ?_); refine goesL_ (some 16) rfl rfl Try.func53 (by kernel_rfl) rfl #[.int .i64 (rd l1 x5_1)] rfl upM ?_; (with_reducible refine (kinkeepref35_within.calls (rd l1 x5_1) false _ A5.out).mono ?_); rintro e w' ⟨rfl, ⟨nd, rfl⟩⟩; refine ⟨_, rfl, ?_⟩))
         go_ret
         exact ⟨upE, upD⟩
     · rw [if_neg c4] at H
       exact absurd H (by simp)
   · rw [if_neg c3] at H
     have c3b0 : decide (x5_1 < (l1.length : Int)) = false := decide_eq_false c3
     clear c3
     obtain rfl := Option.some.inj H
     go_wp2
     go_ret
     exact ⟨upE, upD⟩
end Go.Proofs.Ytdljbmgknhbceaa.Q
namespace Go.Proofs.Ytdljbmgknhbceaa.Q
open Go.RowKit Go.Proofs.YtdljbmgknhbceaaW.PrintWords Go.Proofs.YtdljbmgknhbceaaW.PrintLast Go.Proofs.YtdljbmgknhbceaaW.PrintMore
attribute [local go_sem] max2_int min2_int max_two min_two max_three min_three max_four min_four
mutual
def kinkeepref35_Held.l0 : Nat → List (List Int) → List Int → Int → Option (List Int)
 | 0, _, _, _ => none
 | k + 1, x0, x3, x4 => if x4 < (x0.length : Int) then (kinkeepref35_Held.l1 k x0 x3 x4 0) else (some x3)
def kinkeepref35_Held.l1 : Nat → List (List Int) → List Int → Int → Int → Option (List Int)
 | 0, _, _, _, _ => none
 | k + 1, x0, x3, x4, x5 => if x5 < (x0.length : Int) then (if 0 ≤ x4 then (if x4 < (x3.length : Int) then (if x4 < (x0.length : Int) then (if 0 ≤ x5 then (if x5 < ((rd_L1 x0 x4).length : Int) then (kinkeepref35_Held.l1 k x0 (x3.set (x4 : Int).toNat (wrap64 ((rd x3 x4) + (rd (rd_L1 x0 x4) x5)))) x4 (wrap64 (x5 + 1))) else (none)) else (none)) else (none)) else (none)) else (none)) else (kinkeepref35_Held.l0 k x0 x3 (wrap64 (x4 + 1)))
end
def kinkeepref35_Held.f (k : Nat) (l0 : List (List Int)) : Option (List Int) := if 0 ≤ (l0.length : Int) then (if ((l0.length : Int) : Int).toNat ≤ 35184372088832 then (kinkeepref35_Held.l0 k l0 (List.replicate ((l0.length : Int) : Int).toNat 0) 0) else (none)) else (none)
theorem kinkeepref35_Held.mono_l : ∀ k, (∀ y0 y1 y2, LeO (kinkeepref35_Held.l0 k y0 y1 y2) (kinkeepref35_Held.l0 (k + 1) y0 y1 y2)) ∧ (∀ y0 y1 y2 y3, LeO (kinkeepref35_Held.l1 k y0 y1 y2 y3) (kinkeepref35_Held.l1 (k + 1) y0 y1 y2 y3))
 | 0 => ⟨fun _ _ _ r h => by simp [kinkeepref35_Held.l0] at h, fun _ _ _ _ r h => by simp [kinkeepref35_Held.l1] at h⟩
 | k + 1 => by
  obtain ⟨ih0, ih1⟩ := kinkeepref35_Held.mono_l k
  refine ⟨?_, ?_⟩
  · intro y0 y1 y2
    unfold kinkeepref35_Held.l0
    repeat' first
    | (with_reducible exact ih0 _ _ _)
    | (with_reducible exact ih1 _ _ _ _)
    | (with_reducible exact LeO.refl _)
    | (with_reducible exact LeO.none _)
    | (with_reducible refine LeO.ite ?_ ?_)
    | (with_reducible refine LeO.bind ?_ (fun _ => ?_))
    | exact ih0 _ _ _
    | exact ih1 _ _ _ _
    | exact LeO.none _
    | refine LeO.ite ?_ ?_
    | refine LeO.bind ?_ (fun _ => ?_)
  · intro y0 y1 y2 y3
    unfold kinkeepref35_Held.l1
    repeat' first
    | (with_reducible exact ih0 _ _ _)
    | (with_reducible exact ih1 _ _ _ _)
    | (with_reducible exact LeO.refl _)
    | (with_reducible exact LeO.none _)
    | (with_reducible refine LeO.ite ?_ ?_)
    | (with_reducible refine LeO.bind ?_ (fun _ => ?_))
    | exact ih0 _ _ _
    | exact ih1 _ _ _ _
    | exact LeO.none _
    | refine LeO.ite ?_ ?_
    | refine LeO.bind ?_ (fun _ => ?_)
theorem kinkeepref35_Held.mono : ∀ a0 k, LeO (kinkeepref35_Held.f k a0) (kinkeepref35_Held.f (k + 1) a0) := by
 intro a0 k
 obtain ⟨ih0, ih1⟩ := kinkeepref35_Held.mono_l k
 unfold kinkeepref35_Held.f
 repeat' first
  | (with_reducible exact ih0 _ _ _)
  | (with_reducible exact ih1 _ _ _ _)
  | (with_reducible exact LeO.refl _)
  | (with_reducible exact LeO.none _)
  | (with_reducible refine LeO.ite ?_ ?_)
  | (with_reducible refine LeO.bind ?_ (fun _ => ?_))
  | exact ih0 _ _ _
  | exact ih1 _ _ _ _
  | exact LeO.none _
  | refine LeO.ite ?_ ?_
  | refine LeO.bind ?_ (fun _ => ?_)
def kinkeepref35_Held.T8 : Bool × List (List Nat × List Nat) := (true, [([], []), ([], []), ([], []), ([], []), ([2, 3], [2, 3]), ([4], [4]), ([], []), ([], []), ([6, 7], [6, 7]), ([8], [8]), ([], []), ([9, 10], [9, 10]), ([11], [11]), ([5, 12], [5, 12]), ([0, 1, 0, 1, 2, 3, 4, 5, 6, 7, 8, 9, 10, 11, 12, 13], [0, 1]), ([14, 13, 0, 1, 2, 3, 4, 5, 6, 7, 8, 9, 10, 11, 12, 13], [13, 14])])
def kinkeepref35_Held.B8 : List Nat := [0, 0, 0, 0, 12, 28, 0, 0, 192, 448, 0, 1984, 4032, 8188, 16383, 32767]
theorem kinkeepref35_Held.tab8 : rtab .any (opsOf Try.f25 8) = kinkeepref35_Held.T8 := by kernel_rfl
theorem kinkeepref35_Held.bits8 : waitsOk kinkeepref35_Held.T8.2 kinkeepref35_Held.B8 = true := by kernel_rfl
set_option maxHeartbeats 8000000 in
set_option maxRecDepth 100000 in
theorem kinkeepref35_Held.calls (k : Nat) (A0 : Option Addr) (c0 : Nat) (l0 : List (List Int)) (r : List Int) (w : World) (hr0 : Kd.C (Kd.slice 3 (Kd.int .i64)) w A0 l0.length l0) (hc0 : l0.length ≤ c0) (h : kinkeepref35_Held.f k l0 = some r) :
 Calls Try.prog 25 #[.slice A0 l0.length c0] w fun e w' => ∃ v0_ : Value, e = .returned (v0_) ∧ Kd.R (Kd.int .i64) 3 w' w.heap.size (fun _ => True) v0_ r ∧ Below w.heap.size w w' := by
 have HR0 := sA hr0
 have HC0 := sA hc0
 clear hr0 hc0
 have HB := sA (Below.refl w.heap.size w)
 have H : (if 0 ≤ (l0.length : Int) then (if ((l0.length : Int) : Int).toNat ≤ 35184372088832 then (kinkeepref35_Held.l0 k l0 (List.replicate ((l0.length : Int) : Int).toNat 0) 0) else (none)) else (none)) = some r := h
 clear h
 by_cases c2 : 0 ≤ (l0.length : Int)
 · rw [if_pos c2] at H
   have c2b0 := eq_true c2
   have c2b1 : decide (0 ≤ (l0.length : Int)) = true := decide_eq_true c2
   clear c2
   by_cases c3 : ((l0.length : Int) : Int).toNat ≤ 35184372088832
   · rw [if_pos c3] at H
     have c3b0 := eq_true c3
     have c3b1 : decide (((l0.length : Int) : Int).toNat ≤ 35184372088832) = true := decide_eq_true c3
     clear c3
     obtain ⟨y388, hy388⟩ : ∃ y_ : List Int, y_ = (List.replicate ((l0.length : Int) : Int).toNat 0) := ⟨_, rfl⟩
     replace H : (kinkeepref35_Held.l0 k l0 y388 0) = some r := by first | (rw [hy388]; with_reducible exact H) | (have H2_ := (Option.bind_some _ _).symm.trans H; rw [hy388]; with_reducible exact H2_) | (have H2_ := (Option.bind_some _ _).symm.trans H; with_reducible exact H2_) | with_reducible exact H | (rw [hy388]; exact H) | exact H
     have Ny388 := sA hy388
     clear hy388
     have H' := sA H
     clear H
     go_enter Try.func25, Try.ntmps25
     go_wp2_with (first | ((with_reducible refine gate_dst (N := 8) rfl ?_); refine Kd.R_make (Kd.int .i64) _ 3 rfl (N := 8) rfl 31 _ _ rfl (l0.length : Int) rfl rfl Try.underlying31 (.int .i64 0) 8 info3 rfl (by decide) (by omega) 0 (ok := fun _ => True) (okp := fun _ => True) rfl (fun _ hk => hk) trivial (upA) (Nat.le_trans (Nat.mul_le_mul_right _ (upA : (l0.length : Int).toNat ≤ 35184372088832)) (by omega)) (Below.refl _ _) (Nat.le_refl _) ?_; intro v389 w4 ho5 hb hg_ hnew_; clear hg_ hnew_; (first | rw [← Ny388.out] at ho5 | (simp only [Int.reduceToNat] at ho5; rw [← Ny388.out] at ho5)); have n0_ := sA (Kd.R_lower ho5 (below_size (upC HB.out))); have n1_ := sA (below_step (upC HB.out) hb); clear HB; have HO390 := n0_; have HB := n1_; clear n0_ n1_; clear hb ho5))
     go_loopg [4] k (fun kq v4 w' => ∃ (x3_1 : List Int) (x4_1 : Int), v4 = .int .i64 x4_1 ∧ Aside0 (kinkeepref35_Held.l0 kq l0 x3_1 x4_1 = some r) ∧ Aside0 (kq ≤ k) ∧ Aside0 (Kd.R (Kd.int .i64) 3 w' w.heap.size (fun _ => True) v389 x3_1) ∧ Aside0 (Below w.heap.size w w'))
     case atStart => exact ⟨(y388), (0), (upE), H', ⟨Nat.le_refl _⟩, ⟨upR HO390.out⟩, ⟨upC HB.out⟩⟩
     case round =>
      clear H'
      try clear c2
      try clear c2b0
      try clear c2b1
      try clear p2
      try clear c3
      try clear c3b0
      try clear c3b1
      obtain ⟨x3_1, x4_1, rfl, HA, HK1, HO_3, HB⟩ := hrel
      cases gk with
      | zero => exact absurd HA.out (by simp [kinkeepref35_Held.l0])
      | succ k1 =>
       have H := HA.out
       clear HA
       simp only [kinkeepref35_Held.l0] at H
       by_cases c6 : x4_1 < (l0.length : Int)
       · rw [if_pos c6] at H
         have c6b0 : decide (x4_1 < (l0.length : Int)) = true := decide_eq_true c6
         clear c6
         have H' := sA H
         clear H
         go_wp2
         go_loopg [5] k1 (fun kq v5 w' => ∃ (x3_2 : List Int) (x5_2 : Int), v5 = .int .i64 x5_2 ∧ Aside0 (kinkeepref35_Held.l1 kq l0 x3_2 x4_1 x5_2 = some r) ∧ Aside0 (kq ≤ k1) ∧ Aside0 (Kd.R (Kd.int .i64) 3 w' w.heap.size (fun _ => True) v389 x3_2) ∧ Aside0 (Below w.heap.size w w'))
         case atStart => exact ⟨(x3_1), (0), (upE), H', ⟨Nat.le_refl _⟩, ⟨upR HO_3.out⟩, ⟨upC HB.out⟩⟩
         case round =>
          clear H'
          try clear c2
          try clear c2b0
          try clear c2b1
          try clear p2
          try clear c3
          try clear c3b0
          try clear c3b1
          try clear c6
          try clear c6b0
          try clear p2
          obtain ⟨x3_2, x5_2, rfl, HA, HK2, HO_3, HB⟩ := hrel
          cases gk with
          | zero => exact absurd HA.out (by simp [kinkeepref35_Held.l1])
          | succ k2 =>
           have H := HA.out
           clear HA
           simp only [kinkeepref35_Held.l1] at H
           by_cases c7 : x5_2 < (l0.length : Int)
           · rw [if_pos c7] at H
             have c7b0 : decide (x5_2 < (l0.length : Int)) = true := decide_eq_true c7
             clear c7
             by_cases c8 : 0 ≤ x4_1
             · rw [if_pos c8] at H
               have c8b0 : decide (0 ≤ x4_1) = true := decide_eq_true c8
               clear c8
               by_cases c9 : x4_1 < (x3_2.length : Int)
               · rw [if_pos c9] at H
                 have c9b0 : decide (x4_1 < (x3_2.length : Int)) = true := decide_eq_true c9
                 clear c9
                 by_cases c10 : x4_1 < (l0.length : Int)
                 · rw [if_pos c10] at H
                   have c10b0 : decide (x4_1 < (l0.length : Int)) = true := decide_eq_true c10
                   clear c10
                   by_cases c11 : 0 ≤ x5_2
                   · rw [if_pos c11] at H
                     have c11b0 : decide (0 ≤ x5_2) = true := decide_eq_true c11
                     clear c11
                     by_cases c12 : x5_2 < ((rd_L1 l0 x4_1).length : Int)
                     · rw [if_pos c12] at H
                       have c12b0 : decide (x5_2 < ((rd_L1 l0 x4_1).length : Int)) = true := decide_eq_true c12
                       clear c12
                       obtain ⟨y394, hy394⟩ : ∃ y_ : List Int, y_ = (x3_2.set (x4_1 : Int).toNat (wrap64 ((rd x3_2 x4_1) + (rd (rd_L1 l0 x4_1) x5_2)))) := ⟨_, rfl⟩
                       replace H : (kinkeepref35_Held.l1 k2 l0 y394 x4_1 (wrap64 (x5_2 + 1))) = some r := by first | (rw [hy394]; with_reducible exact H) | (have H2_ := (Option.bind_some _ _).symm.trans H; rw [hy394]; with_reducible exact H2_) | (have H2_ := (Option.bind_some _ _).symm.trans H; with_reducible exact H2_) | with_reducible exact H | (rw [hy394]; exact H) | exact H
                       have Ny394 := sA hy394
                       clear hy394
                       have H' := sA H
                       clear H
                       try go_wp2
                       have n0_ := sA (Kd.R_drew HO_3.out)
                       have n1_ := sA (below_drew1 HB.out)
                       clear HO_3
                       clear HB
                       have HO_3 := n0_
                       have HB := n1_
                       clear n0_ n1_
                       obtain ⟨Ao15, co15, eo15⟩ := Kd.R_slice HO_3.out
                       (first | subst eo15 | (injection eo15 with f1_ f2_ f3_; have f4_ := f1_.symm; have f5_ := f3_.symm; clear f1_ f2_ f3_; subst f4_; subst f5_))
                       have p391 : 0 ≤ (x4_1 : Int) := upA
                       have q391 : x4_1 < (x3_2.length : Int) := upA
                       obtain ⟨ad391, e391, hx391_0⟩ := Kd.at_int (Kd.R_reads' HO_3.out).2.2 x4_1 p391 q391
                       cases e391
                       replace p391 := eq_true p391
                       replace q391 := eq_true q391
                       have p392 : 0 ≤ (x4_1 : Int) := upA
                       have q392 : x4_1 < (l0.length : Int) := upA
                       obtain ⟨ad392, A392_0, c392_0, e392, hx392_0, hl392_0, hi392_0⟩ := at_L1 HR0.out x4_1 p392 q392
                       have hw392_0 := hx392_0
                       cases e392
                       replace hx392_0 := (HB.out.cell (World.block_lt_of_cell? w _ hx392_0)).trans hx392_0
                       have HR392_0 := sA hi392_0
                       have HC392_0 := sA hl392_0
                       clear hi392_0 hl392_0
                       replace p392 := eq_true p392
                       replace q392 := eq_true q392
                       have p393 : 0 ≤ (x5_2 : Int) := upA
                       have q393 : x5_2 < ((rd_L1 l0 x4_1).length : Int) := upA
                       obtain ⟨ad393, e393, hx393_0⟩ := Kd.at_int HR392_0.out x5_2 p393 q393
                       have hw393_0 := hx393_0
                       cases e393
                       replace hx393_0 := (HB.out.cell (World.block_lt_of_cell? w _ hx393_0)).trans hx393_0
                       replace p393 := eq_true p393
                       replace q393 := eq_true q393
                       have p13 : 0 ≤ (x4_1 : Int) := upA
                       have q13 : (x4_1 : Int) < ((x3_2.length : Int) : Int) := upA
                       obtain ⟨go13, co13, eo13, gb13, gl13, cl13, HG13⟩ := Kd.R_form HO_3.out (by omega)
                       (first | cases eo13 | (injection eo13 with ea_ en_ ec_; (first | subst ea_ | (injection ea_ with ea_; subst ea_)); subst ec_; clear en_))
                       have GB13 := sA gb13
                       have GG13 := sA HG13
                       clear gb13 gl13 HG13
                       (first | simp only [add_plain] at hx391_0 | skip)
                       obtain ⟨hx13_0, hf13_0⟩ := Kd.R_celln 0 HO_3.out (x4_1 : Int) p13 q13
                       replace p13 := eq_true p13
                       replace q13 := eq_true q13
                       have HP16 := Kd.R_putn HO_3.out (x4_1 : Int) (wrap64 ((rd x3_2 x4_1) + (rd (rd_L1 l0 x4_1) x5_2)))
                       rw [← Ny394.out] at HP16
                       have HQ16 := sA HP16
                       clear HP16
                       refine start_ (n := 16) (S := fun w' => w'.cell? ⟨go13, (x4_1).toNat, none⟩ = some (.int .i64 (rd x3_2 x4_1)) ∧ w'.cell? (ad392.add (x4_1).toNat) = some (.slice (some ad393) (rd_L1 l0 x4_1).length c392_0) ∧ w'.cell? (ad393.add (x5_2).toNat) = some (.int .i64 (rd (rd_L1 l0 x4_1) x5_2))) (ds := [15]) #[false, false, false, false, false, false, false, false, false, false, false, false, false, false, false, false] (by kernel_rfl) rfl rfl ⟨hx391_0, ((HB.out.cell (World.block_lt_of_cell? w _ hw392_0)).trans hw392_0), ((HB.out.cell (World.block_lt_of_cell? w _ hw393_0)).trans hw393_0)⟩ (fun hHeld => ?_); refine with_tabW kinkeepref35_Held.tab8 kinkeepref35_Held.bits8 (fun HT_ HW_ => ?_)
                       generalize wr.drew = w14 at HO_3 HB GG13 HQ16 HR392_0 hf13_0 hx13_0 hx391_0 hx392_0 hx393_0 hHeld ⊢
                       refine pure_ (i := 0) (N := some 21) (v := ?_) (a' := ?_) #[true, false, false, false, false, false, false, false, false, false, false, false, false, false, false, false] rfl rfl (any_of HT_.out (by kernel_rfl)) (fun _ _ _ h => h) (Or.inl ⟨by rfl, ?_⟩) ?_ ?_
                       rotate_left
                       · intro w'
                         go_simp
                         with_reducible rfl
                       rotate_left
                       · simp only [Act.put, upL, i64_w, i32_w]
                         rfl
                       refine pure_ (i := 1) (N := some 22) (v := ?_) (a' := ?_) #[true, true, false, false, false, false, false, false, false, false, false, false, false, false, false, false] rfl rfl (any_of HT_.out (by kernel_rfl)) (fun _ _ _ h => h) (Or.inl ⟨by rfl, ?_⟩) ?_ ?_
                       rotate_left
                       · intro w'
                         go_simp
                         with_reducible rfl
                       rotate_left
                       · simp only [Act.put, upL, i64_w, i32_w]
                         rfl
                       refine pure_ (i := 2) (N := some 23) (v := ?_) (a' := ?_) #[true, true, true, false, false, false, false, false, false, false, false, false, false, false, false, false] rfl rfl (any_of HT_.out (by kernel_rfl)) (fun _ _ _ h => h) (Or.inl ⟨by rfl, ?_⟩) ?_ ?_
                       rotate_left
                       · intro w'
                         go_simp
                         with_reducible rfl
                       rotate_left
                       · simp only [Act.put, upL, i64_w, i32_w]
                         rfl
                       refine pure_ (i := 3) (N := some 24) (v := ?_) (a' := ?_) #[true, true, true, true, false, false, false, false, false, false, false, false, false, false, false, false] rfl rfl (any_of HT_.out (by kernel_rfl)) (fun _ _ _ h => h) (Or.inl ⟨by rfl, ?_⟩) ?_ ?_
                       rotate_left
                       · intro w'
                         go_simp
                         with_reducible rfl
                       rotate_left
                       · simp only [Act.put, upL, i64_w, i32_w]
                         rfl
                       refine pure_ (i := 4) (N := some 25) (v := ?_) (a' := ?_) #[true, true, true, true, true, false, false, false, false, false, false, false, false, false, false, false] rfl rfl (any_of HT_.out (by kernel_rfl)) (fun _ _ _ h => h) (Or.inl ⟨by rfl, ?_⟩) ?_ ?_
                       rotate_left
                       · intro w'
                         go_simp
                         with_reducible rfl
                       rotate_left
                       · simp only [Act.put, upL, i64_w, i32_w]
                         rfl
                       refine pure_ (i := 6) (N := some 27) (v := ?_) (a' := ?_) #[true, true, true, true, true, false, true, false, false, false, false, false, false, false, false, false] rfl rfl (any_of HT_.out (by kernel_rfl)) (fun _ _ _ h => h) (Or.inl ⟨by rfl, ?_⟩) ?_ ?_
                       rotate_left
                       · intro w'
                         go_simp
                         with_reducible rfl
                       rotate_left
                       · simp only [Act.put, upL, i64_w, i32_w]
                         rfl
                       refine pure_ (i := 7) (N := some 28) (v := ?_) (a' := ?_) #[true, true, true, true, true, false, true, true, false, false, false, false, false, false, false, false] rfl rfl (any_of HT_.out (by kernel_rfl)) (fun _ _ _ h => h) (Or.inl ⟨by rfl, ?_⟩) ?_ ?_
                       rotate_left
                       · intro w'
                         go_simp
                         with_reducible rfl
                       rotate_left
                       · simp only [Act.put, upL, i64_w, i32_w]
                         rfl
                       refine pure_ (i := 8) (N := some 29) (v := ?_) (a' := ?_) #[true, true, true, true, true, false, true, true, true, false, false, false, false, false, false, false] rfl rfl (any_of HT_.out (by kernel_rfl)) (fun _ _ _ h => h) (Or.inl ⟨by rfl, ?_⟩) ?_ ?_
                       rotate_left
                       · intro w'
                         go_simp
                         with_reducible rfl
                       rotate_left
                       · simp only [Act.put, upL, i64_w, i32_w]
                         rfl
                       refine pure_ (i := 10) (N := some 31) (v := ?_) (a' := ?_) #[true, true, true, true, true, false, true, true, true, false, true, false, false, false, false, false] rfl rfl (any_of HT_.out (by kernel_rfl)) (fun _ _ _ h => h) (Or.inl ⟨by rfl, ?_⟩) ?_ ?_
                       rotate_left
                       · intro w'
                         go_simp
                         with_reducible rfl
                       rotate_left
                       · simp only [Act.put, upL, i64_w, i32_w]
                         rfl
                       refine take_ (i := 5) (N := some 26) (v := ?_) (a' := ?_) #[true, true, true, true, true, true, true, true, true, false, true, false, false, false, false, false] rfl rfl (take_ofW HT_.out HW_.out (by kernel_rfl)) (fun _ _ _ h => h) (Or.inl ⟨by rfl, ?_⟩) hHeld ?_ ?_
                       rotate_left
                       · rintro w' ⟨s0, s1, s2⟩
                         go_simp
                         with_reducible rfl
                       rotate_left
                       · simp only [Act.put, upL, i64_w, i32_w]
                         rfl
                       refine take_ (i := 9) (N := some 30) (v := ?_) (a' := ?_) #[true, true, true, true, true, true, true, true, true, true, true, false, false, false, false, false] rfl rfl (take_ofW HT_.out HW_.out (by kernel_rfl)) (fun _ _ _ h => h) (Or.inl ⟨by rfl, ?_⟩) hHeld ?_ ?_
                       rotate_left
                       · rintro w' ⟨s0, s1, s2⟩
                         go_simp
                         with_reducible rfl
                       rotate_left
                       · simp only [Act.put, upL, i64_w, i32_w]
                         rfl
                       refine pure_ (i := 11) (N := some 32) (v := ?_) (a' := ?_) #[true, true, true, true, true, true, true, true, true, true, true, true, false, false, false, false] rfl rfl (any_of HT_.out (by kernel_rfl)) (fun _ _ _ h => h) (Or.inl ⟨by rfl, ?_⟩) ?_ ?_
                       rotate_left
                       · intro w'
                         go_simp
                         with_reducible rfl
                       rotate_left
                       · simp only [Act.put, upL, i64_w, i32_w]
                         rfl
                       refine take_ (i := 12) (N := some 33) (v := ?_) (a' := ?_) #[true, true, true, true, true, true, true, true, true, true, true, true, true, false, false, false] rfl rfl (take_ofW HT_.out HW_.out (by kernel_rfl)) (fun _ _ _ h => h) (Or.inl ⟨by rfl, ?_⟩) hHeld ?_ ?_
                       rotate_left
                       · rintro w' ⟨s0, s1, s2⟩
                         go_simp
                         with_reducible rfl
                       rotate_left
                       · simp only [Act.put, upL, i64_w, i32_w]
                         rfl
                       refine pure_ (i := 13) (N := some 34) (v := ?_) (a' := ?_) #[true, true, true, true, true, true, true, true, true, true, true, true, true, true, false, false] rfl rfl (any_of HT_.out (by kernel_rfl)) (fun _ _ _ h => h) (Or.inl ⟨by rfl, ?_⟩) ?_ ?_
                       rotate_left
                       · intro w'
                         go_simp
                         with_reducible rfl
                       rotate_left
                       · simp only [Act.put, upL, i64_w, i32_w]
                         rfl
                       refine pure_ (i := 14) (N := some 35) (v := ?_) (a' := ?_) #[true, true, true, true, true, true, true, true, true, true, true, true, true, true, true, false] rfl rfl (any_of HT_.out (by kernel_rfl)) (fun _ _ _ h => h) (Or.inl ⟨by rfl, ?_⟩) ?_ ?_
                       rotate_left
                       · intro w'
                         go_simp
                         with_reducible rfl
                       rotate_left
                       · simp only [Act.put, upL, i64_w, i32_w]
                         rfl
                       refine last_ (i := 15) (N := none) #[true, true, true, true, true, true, true, true, true, true, true, true, true, true, true, true] rfl rfl (one_of HT_.out (by kernel_rfl)) (by decide) (fun K hK => ?_)
                       refine skip_ (w1 := ?_) (by rfl) rfl ?_ ?_
                       rotate_left
                       · go_simp
                         rfl
                       refine hK.out _ _ ?_
                       clear hK K
                       refine done_ (done_of HT_.out (by kernel_rfl)) ?_
                       try go_wp2
                       go_roundg k2
                       case measure => have := HK1.out; have := HK2.out; omega
                       case rel => exact ⟨(y394), (wrap64 (x5_2 + 1)), (upE), H', ⟨by have := HK1.out; have := HK2.out; omega⟩, ⟨upR HQ16.out⟩, ⟨by repeat (first | (with_reducible first | exact HB.out | apply below_alloc | apply pw_below_drewN | apply below_drew1 | refine below_set ?_ GB13.out) | exact HB.out)⟩⟩
                     · rw [if_neg c12] at H
                       exact absurd H (by simp)
                   · rw [if_neg c11] at H
                     exact absurd H (by simp)
                 · rw [if_neg c10] at H
                   exact absurd H (by simp)
               · rw [if_neg c9] at H
                 exact absurd H (by simp)
             · rw [if_neg c8] at H
               exact absurd H (by simp)
           · rw [if_neg c7] at H
             have c7b0 : decide (x5_2 < (l0.length : Int)) = false := decide_eq_false c7
             clear c7
             have H' := sA H
             clear H
             go_wp2
             go_roundg k2
             case measure => have := HK1.out; have := HK2.out; omega
             case rel => exact ⟨(x3_2), (wrap64 (x4_1 + 1)), (upE), H', ⟨by have := HK1.out; have := HK2.out; omega⟩, ⟨upR HO_3.out⟩, ⟨upC HB.out⟩⟩
       · rw [if_neg c6] at H
         have c6b0 : decide (x4_1 < (l0.length : Int)) = false := decide_eq_false c6
         clear c6
         obtain rfl := Option.some.inj H
         go_wp2
         go_ret
         exact ⟨_, by first | rfl | (simp [errW_none, errW_some] <;> rfl) | (simp [*, errW_none, errW_some] <;> rfl), by (with_reducible repeat (first | apply Kd.R_alloc | apply Kd.R_drewN | apply Kd.R_drew)); exact HO_3.out, upC HB.out⟩
   · rw [if_neg c3] at H
     exact absurd H (by simp)
 · rw [if_neg c2] at H
   exact absurd H (by simp)
end Go.Proofs.Ytdljbmgknhbceaa.Q
namespace Go.Proofs.Ytdljbmgknhbceaa.Q
open Go.RowKit Go.Proofs.YtdljbmgknhbceaaW.PrintWords Go.Proofs.YtdljbmgknhbceaaW.PrintLast Go.Proofs.YtdljbmgknhbceaaW.PrintMore
attribute [local go_sem] max2_int min2_int max_two min_two max_three min_three max_four min_four
mutual
def kinkeepref35_Balance.l0 : Nat → List (List Int) → List Int → Int → Option (List Int)
 | 0, _, _, _ => none
 | k + 1, x0, x3, x4 => if x4 < (x0.length : Int) then (kinkeepref35_Balance.l1 k x0 x3 x4 0) else (some x3)
def kinkeepref35_Balance.l1 : Nat → List (List Int) → List Int → Int → Int → Option (List Int)
 | 0, _, _, _, _ => none
 | k + 1, x0, x3, x4, x5 => if x5 < (x0.length : Int) then (if 0 ≤ x5 then (if x5 < (x3.length : Int) then (if 0 ≤ x4 then (if x4 < (x0.length : Int) then (if x5 < ((rd_L1 x0 x4).length : Int) then ((some (x3.set (x5 : Int).toNat (wrap64 ((rd x3 x5) + (rd (rd_L1 x0 x4) x5))) : List Int)).bind fun y401 => (if x4 < (x3.length : Int) then (kinkeepref35_Balance.l1 k x0 (y401.set (x4 : Int).toNat (wrap64 ((rd y401 x4) - (rd (rd_L1 x0 x4) x5)))) x4 (wrap64 (x5 + 1))) else (none))) else (none)) else (none)) else (none)) else (none)) else (none)) else (kinkeepref35_Balance.l0 k x0 x3 (wrap64 (x4 + 1)))
end
def kinkeepref35_Balance.f (k : Nat) (l0 : List (List Int)) : Option (List Int) := if 0 ≤ (l0.length : Int) then (if ((l0.length : Int) : Int).toNat ≤ 35184372088832 then (kinkeepref35_Balance.l0 k l0 (List.replicate ((l0.length : Int) : Int).toNat 0) 0) else (none)) else (none)
theorem kinkeepref35_Balance.mono_l : ∀ k, (∀ y0 y1 y2, LeO (kinkeepref35_Balance.l0 k y0 y1 y2) (kinkeepref35_Balance.l0 (k + 1) y0 y1 y2)) ∧ (∀ y0 y1 y2 y3, LeO (kinkeepref35_Balance.l1 k y0 y1 y2 y3) (kinkeepref35_Balance.l1 (k + 1) y0 y1 y2 y3))
 | 0 => ⟨fun _ _ _ r h => by simp [kinkeepref35_Balance.l0] at h, fun _ _ _ _ r h => by simp [kinkeepref35_Balance.l1] at h⟩
 | k + 1 => by
  obtain ⟨ih0, ih1⟩ := kinkeepref35_Balance.mono_l k
  refine ⟨?_, ?_⟩
  · intro y0 y1 y2
    unfold kinkeepref35_Balance.l0
    repeat' first
    | (with_reducible exact ih0 _ _ _)
    | (with_reducible exact ih1 _ _ _ _)
    | (with_reducible exact LeO.refl _)
    | (with_reducible exact LeO.none _)
    | (with_reducible refine LeO.ite ?_ ?_)
    | (with_reducible refine LeO.bind ?_ (fun _ => ?_))
    | exact ih0 _ _ _
    | exact ih1 _ _ _ _
    | exact LeO.none _
    | refine LeO.ite ?_ ?_
    | refine LeO.bind ?_ (fun _ => ?_)
  · intro y0 y1 y2 y3
    unfold kinkeepref35_Balance.l1
    repeat' first
    | (with_reducible exact ih0 _ _ _)
    | (with_reducible exact ih1 _ _ _ _)
    | (with_reducible exact LeO.refl _)
    | (with_reducible exact LeO.none _)
    | (with_reducible refine LeO.ite ?_ ?_)
    | (with_reducible refine LeO.bind ?_ (fun _ => ?_))
    | exact ih0 _ _ _
    | exact ih1 _ _ _ _
    | exact LeO.none _
    | refine LeO.ite ?_ ?_
    | refine LeO.bind ?_ (fun _ => ?_)
theorem kinkeepref35_Balance.mono : ∀ a0 k, LeO (kinkeepref35_Balance.f k a0) (kinkeepref35_Balance.f (k + 1) a0) := by
 intro a0 k
 obtain ⟨ih0, ih1⟩ := kinkeepref35_Balance.mono_l k
 unfold kinkeepref35_Balance.f
 repeat' first
  | (with_reducible exact ih0 _ _ _)
  | (with_reducible exact ih1 _ _ _ _)
  | (with_reducible exact LeO.refl _)
  | (with_reducible exact LeO.none _)
  | (with_reducible refine LeO.ite ?_ ?_)
  | (with_reducible refine LeO.bind ?_ (fun _ => ?_))
  | exact ih0 _ _ _
  | exact ih1 _ _ _ _
  | exact LeO.none _
  | refine LeO.ite ?_ ?_
  | refine LeO.bind ?_ (fun _ => ?_)
def kinkeepref35_Balance.T8 : Bool × List (List Nat × List Nat) := (true, [([], []), ([], []), ([], []), ([], []), ([2, 3], [2, 3]), ([4], [4]), ([], []), ([], []), ([6, 7], [6, 7]), ([8], [8]), ([], []), ([9, 10], [9, 10]), ([11], [11]), ([5, 12], [5, 12]), ([0, 1, 0, 1, 2, 3, 4, 5, 6, 7, 8, 9, 10, 11, 12, 13], [0, 1]), ([14, 13, 0, 1, 2, 3, 4, 5, 6, 7, 8, 9, 10, 11, 12, 13], [13, 14])])
def kinkeepref35_Balance.B8 : List Nat := [0, 0, 0, 0, 12, 28, 0, 0, 192, 448, 0, 1984, 4032, 8188, 16383, 32767]
theorem kinkeepref35_Balance.tab8 : rtab .any (opsOf Try.f26 8) = kinkeepref35_Balance.T8 := by kernel_rfl
theorem kinkeepref35_Balance.bits8 : waitsOk kinkeepref35_Balance.T8.2 kinkeepref35_Balance.B8 = true := by kernel_rfl
def kinkeepref35_Balance.T9 : Bool × List (List Nat × List Nat) := (true, [([], []), ([], []), ([], []), ([], []), ([2, 3], [2, 3]), ([4], [4]), ([], []), ([], []), ([6, 7], [6, 7]), ([8], [8]), ([], []), ([9, 10], [9, 10]), ([11], [11]), ([5, 12], [5, 12]), ([0, 1, 0, 1, 2, 3, 4, 5, 6, 7, 8, 9, 10, 11, 12, 13], [0, 1]), ([14, 13, 0, 1, 2, 3, 4, 5, 6, 7, 8, 9, 10, 11, 12, 13], [13, 14])])
def kinkeepref35_Balance.B9 : List Nat := [0, 0, 0, 0, 12, 28, 0, 0, 192, 448, 0, 1984, 4032, 8188, 16383, 32767]
theorem kinkeepref35_Balance.tab9 : rtab .any (opsOf Try.f26 9) = kinkeepref35_Balance.T9 := by kernel_rfl
theorem kinkeepref35_Balance.bits9 : waitsOk kinkeepref35_Balance.T9.2 kinkeepref35_Balance.B9 = true := by kernel_rfl
set_option maxHeartbeats 8000000 in
set_option maxRecDepth 100000 in
theorem kinkeepref35_Balance.calls (k : Nat) (A0 : Option Addr) (c0 : Nat) (l0 : List (List Int)) (r : List Int) (w : World) (hr0 : Kd.C (Kd.slice 3 (Kd.int .i64)) w A0 l0.length l0) (hc0 : l0.length ≤ c0) (h : kinkeepref35_Balance.f k l0 = some r) :
 Calls Try.prog 26 #[.slice A0 l0.length c0] w fun e w' => ∃ v0_ : Value, e = .returned (v0_) ∧ Kd.R (Kd.int .i64) 3 w' w.heap.size (fun _ => True) v0_ r ∧ Below w.heap.size w w' := by
 have HR0 := sA hr0
 have HC0 := sA hc0
 clear hr0 hc0
 have HB := sA (Below.refl w.heap.size w)
 have H : (if 0 ≤ (l0.length : Int) then (if ((l0.length : Int) : Int).toNat ≤ 35184372088832 then (kinkeepref35_Balance.l0 k l0 (List.replicate ((l0.length : Int) : Int).toNat 0) 0) else (none)) else (none)) = some r := h
 clear h
 by_cases c2 : 0 ≤ (l0.length : Int)
 · rw [if_pos c2] at H
   have c2b0 := eq_true c2
   have c2b1 : decide (0 ≤ (l0.length : Int)) = true := decide_eq_true c2
   clear c2
   by_cases c3 : ((l0.length : Int) : Int).toNat ≤ 35184372088832
   · rw [if_pos c3] at H
     have c3b0 := eq_true c3
     have c3b1 : decide (((l0.length : Int) : Int).toNat ≤ 35184372088832) = true := decide_eq_true c3
     clear c3
     obtain ⟨y395, hy395⟩ : ∃ y_ : List Int, y_ = (List.replicate ((l0.length : Int) : Int).toNat 0) := ⟨_, rfl⟩
     replace H : (kinkeepref35_Balance.l0 k l0 y395 0) = some r := by first | (rw [hy395]; with_reducible exact H) | (have H2_ := (Option.bind_some _ _).symm.trans H; rw [hy395]; with_reducible exact H2_) | (have H2_ := (Option.bind_some _ _).symm.trans H; with_reducible exact H2_) | with_reducible exact H | (rw [hy395]; exact H) | exact H
     have Ny395 := sA hy395
     clear hy395
     have H' := sA H
     clear H
     go_enter Try.func26, Try.ntmps26
     go_wp2_with (first | ((with_reducible refine gate_dst (N := 8) rfl ?_); refine Kd.R_make (Kd.int .i64) _ 3 rfl (N := 8) rfl 31 _ _ rfl (l0.length : Int) rfl rfl Try.underlying31 (.int .i64 0) 8 info3 rfl (by decide) (by omega) 0 (ok := fun _ => True) (okp := fun _ => True) rfl (fun _ hk => hk) trivial (upA) (Nat.le_trans (Nat.mul_le_mul_right _ (upA : (l0.length : Int).toNat ≤ 35184372088832)) (by omega)) (Below.refl _ _) (Nat.le_refl _) ?_; intro v396 w4 ho5 hb hg_ hnew_; clear hg_ hnew_; (first | rw [← Ny395.out] at ho5 | (simp only [Int.reduceToNat] at ho5; rw [← Ny395.out] at ho5)); have n0_ := sA (Kd.R_lower ho5 (below_size (upC HB.out))); have n1_ := sA (below_step (upC HB.out) hb); clear HB; have HO397 := n0_; have HB := n1_; clear n0_ n1_; clear hb ho5))
     go_loopg [4] k (fun kq v4 w' => ∃ (x3_1 : List Int) (x4_1 : Int), v4 = .int .i64 x4_1 ∧ Aside0 (kinkeepref35_Balance.l0 kq l0 x3_1 x4_1 = some r) ∧ Aside0 (kq ≤ k) ∧ Aside0 (Kd.R (Kd.int .i64) 3 w' w.heap.size (fun _ => True) v396 x3_1) ∧ Aside0 (Below w.heap.size w w'))
     case atStart => exact ⟨(y395), (0), (upE), H', ⟨Nat.le_refl _⟩, ⟨upR HO397.out⟩, ⟨upC HB.out⟩⟩
     case round =>
      clear H'
      try clear c2
      try clear c2b0
      try clear c2b1
      try clear p2
      try clear c3
      try clear c3b0
      try clear c3b1
      obtain ⟨x3_1, x4_1, rfl, HA, HK1, HO_3, HB⟩ := hrel
      cases gk with
      | zero => exact absurd HA.out (by simp [kinkeepref35_Balance.l0])
      | succ k1 =>
       have H := HA.out
       clear HA
       simp only [kinkeepref35_Balance.l0] at H
       by_cases c6 : x4_1 < (l0.length : Int)
       · rw [if_pos c6] at H
         have c6b0 : decide (x4_1 < (l0.length : Int)) = true := decide_eq_true c6
         clear c6
         have H' := sA H
         clear H
         go_wp2
         go_loopg [5] k1 (fun kq v5 w' => ∃ (x3_2 : List Int) (x5_2 : Int), v5 = .int .i64 x5_2 ∧ Aside0 (kinkeepref35_Balance.l1 kq l0 x3_2 x4_1 x5_2 = some r) ∧ Aside0 (kq ≤ k1) ∧ Aside0 (Kd.R (Kd.int .i64) 3 w' w.heap.size (fun _ => True) v396 x3_2) ∧ Aside0 (Below w.heap.size w w'))
         case atStart => exact ⟨(x3_1), (0), (upE), H', ⟨Nat.le_refl _⟩, ⟨upR HO_3.out⟩, ⟨upC HB.out⟩⟩
         case round =>
          clear H'
          try clear c2
          try clear c2b0
          try clear c2b1
          try clear p2
          try clear c3
          try clear c3b0
          try clear c3b1
          try clear c6
          try clear c6b0
          try clear p2
          obtain ⟨x3_2, x5_2, rfl, HA, HK2, HO_3, HB⟩ := hrel
          cases gk with
          | zero => exact absurd HA.out (by simp [kinkeepref35_Balance.l1])
          | succ k2 =>
           have H := HA.out
           clear HA
           simp only [kinkeepref35_Balance.l1] at H
           by_cases c7 : x5_2 < (l0.length : Int)
           · rw [if_pos c7] at H
             have c7b0 : decide (x5_2 < (l0.length : Int)) = true := decide_eq_true c7
             clear c7
             by_cases c8 : 0 ≤ x5_2
             · rw [if_pos c8] at H
               have c8b0 : decide (0 ≤ x5_2) = true := decide_eq_true c8
               clear c8
               by_cases c9 : x5_2 < (x3_2.length : Int)
               · rw [if_pos c9] at H
                 have c9b0 : decide (x5_2 < (x3_2.length : Int)) = true := decide_eq_true c9
                 clear c9
                 by_cases c10 : 0 ≤ x4_1
                 · rw [if_pos c10] at H
                   have c10b0 : decide (0 ≤ x4_1) = true := decide_eq_true c10
                   clear c10
                   by_cases c11 : x4_1 < (l0.length : Int)
                   · rw [if_pos c11] at H
                     have c11b0 : decide (x4_1 < (l0.length : Int)) = true := decide_eq_true c11
                     clear c11
                     by_cases c12 : x5_2 < ((rd_L1 l0 x4_1).length : Int)
                     · rw [if_pos c12] at H
                       have c12b0 : decide (x5_2 < ((rd_L1 l0 x4_1).length : Int)) = true := decide_eq_true c12
                       clear c12
                       obtain ⟨y401, hy401⟩ : ∃ y_ : List Int, y_ = (x3_2.set (x5_2 : Int).toNat (wrap64 ((rd x3_2 x5_2) + (rd (rd_L1 l0 x4_1) x5_2)))) := ⟨_, rfl⟩
                       replace H : (if x4_1 < (x3_2.length : Int) then (kinkeepref35_Balance.l1 k2 l0 (y401.set (x4_1 : Int).toNat (wrap64 ((rd y401 x4_1) - (rd (rd_L1 l0 x4_1) x5_2)))) x4_1 (wrap64 (x5_2 + 1))) else (none)) = some r := by first | (rw [hy401]; with_reducible exact H) | (have H2_ := (Option.bind_some _ _).symm.trans H; rw [hy401]; with_reducible exact H2_) | (have H2_ := (Option.bind_some _ _).symm.trans H; with_reducible exact H2_) | with_reducible exact H | (rw [hy401]; exact H) | exact H
                       have Ny401 := sA hy401
                       clear hy401
                       by_cases c14 : x4_1 < (x3_2.length : Int)
                       · rw [if_pos c14] at H
                         have c14b0 : decide (x4_1 < (x3_2.length : Int)) = true := decide_eq_true c14
                         clear c14
                         obtain ⟨y405, hy405⟩ : ∃ y_ : List Int, y_ = (y401.set (x4_1 : Int).toNat (wrap64 ((rd y401 x4_1) - (rd (rd_L1 l0 x4_1) x5_2)))) := ⟨_, rfl⟩
                         replace H : (kinkeepref35_Balance.l1 k2 l0 y405 x4_1 (wrap64 (x5_2 + 1))) = some r := by first | (rw [hy405]; with_reducible exact H) | (have H2_ := (Option.bind_some _ _).symm.trans H; rw [hy405]; with_reducible exact H2_) | (have H2_ := (Option.bind_some _ _).symm.trans H; with_reducible exact H2_) | with_reducible exact H | (rw [hy405]; exact H) | exact H
                         have Ny405 := sA hy405
                         clear hy405
                         have H' := sA H
                         clear H
                         try go_wp2
                         have n0_ := sA (Kd.R_drew HO_3.out)
                         have n1_ := sA (below_drew1 HB.out)
                         clear HO_3
                         clear HB
                         have HO_3 := n0_
                         have HB := n1_
                         clear n0_ n1_
                         obtain ⟨Ao17, co17, eo17⟩ := Kd.R_slice HO_3.out
                         (first | subst eo17 | (injection eo17 with f1_ f2_ f3_; have f4_ := f1_.symm; have f5_ := f3_.symm; clear f1_ f2_ f3_; subst f4_; subst f5_))
                         have p398 : 0 ≤ (x5_2 : Int) := upA
                         have q398 : x5_2 < (x3_2.length : Int) := upA
                         obtain ⟨ad398, e398, hx398_0⟩ := Kd.at_int (Kd.R_reads' HO_3.out).2.2 x5_2 p398 q398
                         cases e398
                         replace p398 := eq_true p398
                         replace q398 := eq_true q398
                         have p399 : 0 ≤ (x4_1 : Int) := upA
                         have q399 : x4_1 < (l0.length : Int) := upA
                         obtain ⟨ad399, A399_0, c399_0, e399, hx399_0, hl399_0, hi399_0⟩ := at_L1 HR0.out x4_1 p399 q399
                         have hw399_0 := hx399_0
                         cases e399
                         replace hx399_0 := (HB.out.cell (World.block_lt_of_cell? w _ hx399_0)).trans hx399_0
                         have HR399_0 := sA hi399_0
                         have HC399_0 := sA hl399_0
                         clear hi399_0 hl399_0
                         replace p399 := eq_true p399
                         replace q399 := eq_true q399
                         have p400 : 0 ≤ (x5_2 : Int) := upA
                         have q400 : x5_2 < ((rd_L1 l0 x4_1).length : Int) := upA
                         obtain ⟨ad400, e400, hx400_0⟩ := Kd.at_int HR399_0.out x5_2 p400 q400
                         have hw400_0 := hx400_0
                         cases e400
                         replace hx400_0 := (HB.out.cell (World.block_lt_of_cell? w _ hx400_0)).trans hx400_0
                         replace p400 := eq_true p400
                         replace q400 := eq_true q400
                         have p13 : 0 ≤ (x5_2 : Int) := upA
                         have q13 : (x5_2 : Int) < ((x3_2.length : Int) : Int) := upA
                         obtain ⟨go13, co13, eo13, gb13, gl13, cl13, HG13⟩ := Kd.R_form HO_3.out (by omega)
                         (first | cases eo13 | (injection eo13 with ea_ en_ ec_; (first | subst ea_ | (injection ea_ with ea_; subst ea_)); subst ec_; clear en_))
                         have GB13 := sA gb13
                         have GG13 := sA HG13
                         clear gb13 gl13 HG13
                         (first | simp only [add_plain] at hx398_0 | skip)
                         obtain ⟨hx13_0, hf13_0⟩ := Kd.R_celln 0 HO_3.out (x5_2 : Int) p13 q13
                         replace p13 := eq_true p13
                         replace q13 := eq_true q13
                         have HP18 := Kd.R_putn HO_3.out (x5_2 : Int) (wrap64 ((rd x3_2 x5_2) + (rd (rd_L1 l0 x4_1) x5_2)))
                         rw [← Ny401.out] at HP18
                         have HQ18 := sA HP18
                         clear HP18
                         refine start_ (n := 16) (S := fun w' => w'.cell? ⟨go13, (x5_2).toNat, none⟩ = some (.int .i64 (rd x3_2 x5_2)) ∧ w'.cell? (ad399.add (x4_1).toNat) = some (.slice (some ad400) (rd_L1 l0 x4_1).length c399_0) ∧ w'.cell? (ad400.add (x5_2).toNat) = some (.int .i64 (rd (rd_L1 l0 x4_1) x5_2))) (ds := [15]) #[false, false, false, false, false, false, false, false, false, false, false, false, false, false, false, false] (by kernel_rfl) rfl rfl ⟨hx398_0, ((HB.out.cell (World.block_lt_of_cell? w _ hw399_0)).trans hw399_0), ((HB.out.cell (World.block_lt_of_cell? w _ hw400_0)).trans hw400_0)⟩ (fun hHeld => ?_); refine with_tabW kinkeepref35_Balance.tab8 kinkeepref35_Balance.bits8 (fun HT_ HW_ => ?_)
                         generalize wr.drew = w16 at HO_3 HB GG13 HQ18 HR399_0 hf13_0 hx13_0 hx398_0 hx399_0 hx400_0 hHeld ⊢
                         refine pure_ (i := 0) (N := some 21) (v := ?_) (a' := ?_) #[true, false, false, false, false, false, false, false, false, false, false, false, false, false, false, false] rfl rfl (any_of HT_.out (by kernel_rfl)) (fun _ _ _ h => h) (Or.inl ⟨by rfl, ?_⟩) ?_ ?_
                         rotate_left
                         · intro w'
                           go_simp
                           with_reducible rfl
                         rotate_left
                         · simp only [Act.put, upL, i64_w, i32_w]
                           rfl
                         refine pure_ (i := 1) (N := some 22) (v := ?_) (a' := ?_) #[true, true, false, false, false, false, false, false, false, false, false, false, false, false, false, false] rfl rfl (any_of HT_.out (by kernel_rfl)) (fun _ _ _ h => h) (Or.inl ⟨by rfl, ?_⟩) ?_ ?_
                         rotate_left
                         · intro w'
                           go_simp
                           with_reducible rfl
                         rotate_left
                         · simp only [Act.put, upL, i64_w, i32_w]
                           rfl
                         refine pure_ (i := 2) (N := some 23) (v := ?_) (a' := ?_) #[true, true, true, false, false, false, false, false, false, false, false, false, false, false, false, false] rfl rfl (any_of HT_.out (by kernel_rfl)) (fun _ _ _ h => h) (Or.inl ⟨by rfl, ?_⟩) ?_ ?_
                         rotate_left
                         · intro w'
                           go_simp
                           with_reducible rfl
                         rotate_left
                         · simp only [Act.put, upL, i64_w, i32_w]
                           rfl
                         refine pure_ (i := 3) (N := some 24) (v := ?_) (a' := ?_) #[true, true, true, true, false, false, false, false, false, false, false, false, false, false, false, false] rfl rfl (any_of HT_.out (by kernel_rfl)) (fun _ _ _ h => h) (Or.inl ⟨by rfl, ?_⟩) ?_ ?_
                         rotate_left
                         · intro w'
                           go_simp
                           with_reducible rfl
                         rotate_left
                         · simp only [Act.put, upL, i64_w, i32_w]
                           rfl
                         refine pure_ (i := 4) (N := some 25) (v := ?_) (a' := ?_) #[true, true, true, true, true, false, false, false, false, false, false, false, false, false, false, false] rfl rfl (any_of HT_.out (by kernel_rfl)) (fun _ _ _ h => h) (Or.inl ⟨by rfl, ?_⟩) ?_ ?_
                         rotate_left
                         · intro w'
                           go_simp
                           with_reducible rfl
                         rotate_left
                         · simp only [Act.put, upL, i64_w, i32_w]
                           rfl
                         refine pure_ (i := 6) (N := some 27) (v := ?_) (a' := ?_) #[true, true, true, true, true, false, true, false, false, false, false, false, false, false, false, false] rfl rfl (any_of HT_.out (by kernel_rfl)) (fun _ _ _ h => h) (Or.inl ⟨by rfl, ?_⟩) ?_ ?_
                         rotate_left
                         · intro w'
                           go_simp
                           with_reducible rfl
                         rotate_left
                         · simp only [Act.put, upL, i64_w, i32_w]
                           rfl
                         refine pure_ (i := 7) (N := some 28) (v := ?_) (a' := ?_) #[true, true, true, true, true, false, true, true, false, false, false, false, false, false, false, false] rfl rfl (any_of HT_.out (by kernel_rfl)) (fun _ _ _ h => h) (Or.inl ⟨by rfl, ?_⟩) ?_ ?_
                         rotate_left
                         · intro w'
                           go_simp
                           with_reducible rfl
                         rotate_left
                         · simp only [Act.put, upL, i64_w, i32_w]
                           rfl
                         refine pure_ (i := 8) (N := some 29) (v := ?_) (a' := ?_) #[true, true, true, true, true, false, true, true, true, false, false, false, false, false, false, false] rfl rfl (any_of HT_.out (by kernel_rfl)) (fun _ _ _ h => h) (Or.inl ⟨by rfl, ?_⟩) ?_ ?_
                         rotate_left
                         · intro w'
                           go_simp
                           with_reducible rfl
                         rotate_left
                         · simp only [Act.put, upL, i64_w, i32_w]
                           rfl
                         refine pure_ (i := 10) (N := some 31) (v := ?_) (a' := ?_) #[true, true, true, true, true, false, true, true, true, false, true, false, false, false, false, false] rfl rfl (any_of HT_.out (by kernel_rfl)) (fun _ _ _ h => h) (Or.inl ⟨by rfl, ?_⟩) ?_ ?_
                         rotate_left
                         · intro w'
                           go_simp
                           with_reducible rfl
                         rotate_left
                         · simp only [Act.put, upL, i64_w, i32_w]
                           rfl
                         refine take_ (i := 5) (N := some 26) (v := ?_) (a' := ?_) #[true, true, true, true, true, true, true, true, true, false, true, false, false, false, false, false] rfl rfl (take_ofW HT_.out HW_.out (by kernel_rfl)) (fun _ _ _ h => h) (Or.inl ⟨by rfl, ?_⟩) hHeld ?_ ?_
                         rotate_left
                         · rintro w' ⟨s0, s1, s2⟩
                           go_simp
                           with_reducible rfl
                         rotate_left
                         · simp only [Act.put, upL, i64_w, i32_w]
                           rfl
                         refine take_ (i := 9) (N := some 30) (v := ?_) (a' := ?_) #[true, true, true, true, true, true, true, true, true, true, true, false, false, false, false, false] rfl rfl (take_ofW HT_.out HW_.out (by kernel_rfl)) (fun _ _ _ h => h) (Or.inl ⟨by rfl, ?_⟩) hHeld ?_ ?_
                         rotate_left
                         · rintro w' ⟨s0, s1, s2⟩
                           go_simp
                           with_reducible rfl
                         rotate_left
                         · simp only [Act.put, upL, i64_w, i32_w]
                           rfl
                         refine pure_ (i := 11) (N := some 32) (v := ?_) (a' := ?_) #[true, true, true, true, true, true, true, true, true, true, true, true, false, false, false, false] rfl rfl (any_of HT_.out (by kernel_rfl)) (fun _ _ _ h => h) (Or.inl ⟨by rfl, ?_⟩) ?_ ?_
                         rotate_left
                         · intro w'
                           go_simp
                           with_reducible rfl
                         rotate_left
                         · simp only [Act.put, upL, i64_w, i32_w]
                           rfl
                         refine take_ (i := 12) (N := some 33) (v := ?_) (a' := ?_) #[true, true, true, true, true, true, true, true, true, true, true, true, true, false, false, false] rfl rfl (take_ofW HT_.out HW_.out (by kernel_rfl)) (fun _ _ _ h => h) (Or.inl ⟨by rfl, ?_⟩) hHeld ?_ ?_
                         rotate_left
                         · rintro w' ⟨s0, s1, s2⟩
                           go_simp
                           with_reducible rfl
                         rotate_left
                         · simp only [Act.put, upL, i64_w, i32_w]
                           rfl
                         refine pure_ (i := 13) (N := some 34) (v := ?_) (a' := ?_) #[true, true, true, true, true, true, true, true, true, true, true, true, true, true, false, false] rfl rfl (any_of HT_.out (by kernel_rfl)) (fun _ _ _ h => h) (Or.inl ⟨by rfl, ?_⟩) ?_ ?_
                         rotate_left
                         · intro w'
                           go_simp
                           with_reducible rfl
                         rotate_left
                         · simp only [Act.put, upL, i64_w, i32_w]
                           rfl
                         refine pure_ (i := 14) (N := some 35) (v := ?_) (a' := ?_) #[true, true, true, true, true, true, true, true, true, true, true, true, true, true, true, false] rfl rfl (any_of HT_.out (by kernel_rfl)) (fun _ _ _ h => h) (Or.inl ⟨by rfl, ?_⟩) ?_ ?_
                         rotate_left
                         · intro w'
                           go_simp
                           with_reducible rfl
                         rotate_left
                         · simp only [Act.put, upL, i64_w, i32_w]
                           rfl
                         refine last_ (i := 15) (N := none) #[true, true, true, true, true, true, true, true, true, true, true, true, true, true, true, true] rfl rfl (one_of HT_.out (by kernel_rfl)) (by decide) (fun K hK => ?_)
                         refine skip_ (w1 := ?_) (by rfl) rfl ?_ ?_
                         rotate_left
                         · go_simp
                           rfl
                         refine hK.out _ _ ?_
                         clear hK K
                         refine done_ (done_of HT_.out (by kernel_rfl)) ?_
                         try go_wp2
                         have n0_ : Aside0 (Kd.R (Kd.int .i64) 3 (w16.setCell ⟨go13, (x5_2 : Int).toNat, none⟩ (.int .i64 (wrap64 ((rd x3_2 x5_2) + (rd (rd_L1 l0 x4_1) x5_2))))) w.heap.size (fun _ => True) (.slice (some ⟨go13, 0, none⟩) x3_2.length co17) y401) := ⟨upR HQ18.out⟩
                         have n1_ : Aside0 (Below w.heap.size w (w16.setCell ⟨go13, (x5_2 : Int).toNat, none⟩ (.int .i64 (wrap64 ((rd x3_2 x5_2) + (rd (rd_L1 l0 x4_1) x5_2)))))) := ⟨by repeat (first | (with_reducible first | exact HB.out | apply below_alloc | apply pw_below_drewN | apply below_drew1 | refine below_set ?_ GB13.out) | exact HB.out)⟩
                         (try clear HO_3)
                         (try clear HB)
                         generalize (w16.setCell ⟨go13, (x5_2 : Int).toNat, none⟩ (.int .i64 (wrap64 ((rd x3_2 x5_2) + (rd (rd_L1 l0 x4_1) x5_2))))) = w19 at n0_ n1_ ⊢
                         have HO_3 := n0_
                         have HB := n1_
                         clear n0_ n1_
                         have n0_ := sA (Kd.R_drew HO_3.out)
                         have n1_ := sA (below_drew1 HB.out)
                         clear HO_3
                         clear HB
                         have HO_3 := n0_
                         have HB := n1_
                         clear n0_ n1_
                         have p402 : 0 ≤ (x4_1 : Int) := upA
                         have q402 : x4_1 < (y401.length : Int) := (by have h_ : (x4_1 : Int) < ((x3_2.length : Int) : Int) := upA; first | (have e_ := (Kd.R_reads' HO_3.out).1; omega) | simpa only [Ny401.out, List.length_set] using h_)
                         have ql402 : ((x4_1 : Int) < ((x3_2.length : Int) : Int)) = True := eq_true (upA)
                         obtain ⟨ad402, e402, hx402_0⟩ := Kd.at_int (Kd.R_reads' HO_3.out).2.2 x4_1 p402 q402
                         obtain rfl : (⟨go13, 0, none⟩ : Addr) = ad402 := (by injection e402)
                         (first | simp only [add_plain] at hx402_0 | simp only [add_at] at hx402_0 | simp only [Addr.add, Nat.zero_add] at hx402_0 | skip)
                         replace p402 := eq_true p402
                         replace q402 := eq_true q402
                         have p403 : 0 ≤ (x4_1 : Int) := upA
                         have q403 : x4_1 < (l0.length : Int) := upA
                         obtain ⟨ad403, A403_0, c403_0, e403, hx403_0, hl403_0, hi403_0⟩ := at_L1 HR0.out x4_1 p403 q403
                         have hw403_0 := hx403_0
                         obtain rfl : ad399 = ad403 := (by injection e403)
                         replace hx403_0 := (HB.out.cell (World.block_lt_of_cell? w _ hx403_0)).trans hx403_0
                         have HR403_0 := sA hi403_0
                         have HC403_0 := sA hl403_0
                         clear hi403_0 hl403_0
                         replace p403 := eq_true p403
                         replace q403 := eq_true q403
                         have p404 : 0 ≤ (x5_2 : Int) := upA
                         have q404 : x5_2 < ((rd_L1 l0 x4_1).length : Int) := upA
                         obtain ⟨ad404, e404, hx404_0⟩ := Kd.at_int HR403_0.out x5_2 p404 q404
                         have hw404_0 := hx404_0
                         cases e404
                         replace hx404_0 := (HB.out.cell (World.block_lt_of_cell? w _ hx404_0)).trans hx404_0
                         replace p404 := eq_true p404
                         replace q404 := eq_true q404
                         have p15 : 0 ≤ (x4_1 : Int) := upA
                         have q15 : (x4_1 : Int) < ((x3_2.length : Int) : Int) := upA
                         obtain ⟨hx15_0, hf15_0⟩ := Kd.R_celln 0 HO_3.out (x4_1 : Int) p15 q15
                         replace p15 := eq_true p15
                         replace q15 := eq_true q15
                         have HP21 := Kd.R_putn HO_3.out (x4_1 : Int) (wrap64 ((rd y401 x4_1) - (rd (rd_L1 l0 x4_1) x5_2)))
                         rw [← Ny405.out] at HP21
                         have HQ21 := sA HP21
                         clear HP21
                         refine start_ (n := 16) (S := fun w' => w'.cell? ⟨go13, (x4_1).toNat, none⟩ = some (.int .i64 (rd y401 x4_1)) ∧ w'.cell? (ad399.add (x4_1).toNat) = some (.slice (some ad404) (rd_L1 l0 x4_1).length c403_0) ∧ w'.cell? (ad404.add (x5_2).toNat) = some (.int .i64 (rd (rd_L1 l0 x4_1) x5_2))) (ds := [15]) #[false, false, false, false, false, false, false, false, false, false, false, false, false, false, false, false] (by kernel_rfl) rfl rfl ⟨hx402_0, ((HB.out.cell (World.block_lt_of_cell? w _ hw403_0)).trans hw403_0), ((HB.out.cell (World.block_lt_of_cell? w _ hw404_0)).trans hw404_0)⟩ (fun hHeld => ?_); refine with_tabW kinkeepref35_Balance.tab9 kinkeepref35_Balance.bits9 (fun HT_ HW_ => ?_)
                         generalize w19.drew = w20 at HO_3 HB HQ18 HQ21 HR403_0 hf15_0 hx15_0 hx402_0 hx403_0 hx404_0 hHeld ⊢
                         refine pure_ (i := 0) (N := some 36) (v := ?_) (a' := ?_) #[true, false, false, false, false, false, false, false, false, false, false, false, false, false, false, false] rfl rfl (any_of HT_.out (by kernel_rfl)) (fun _ _ _ h => h) (Or.inl ⟨by rfl, ?_⟩) ?_ ?_
                         rotate_left
                         · intro w'
                           go_simp
                           with_reducible rfl
                         rotate_left
                         · simp only [Act.put, upL, i64_w, i32_w]
                           rfl
                         refine pure_ (i := 1) (N := some 37) (v := ?_) (a' := ?_) #[true, true, false, false, false, false, false, false, false, false, false, false, false, false, false, false] rfl rfl (any_of HT_.out (by kernel_rfl)) (fun _ _ _ h => h) (Or.inl ⟨by rfl, ?_⟩) ?_ ?_
                         rotate_left
                         · intro w'
                           go_simp
                           with_reducible rfl
                         rotate_left
                         · simp only [Act.put, upL, i64_w, i32_w]
                           rfl
                         refine pure_ (i := 2) (N := some 38) (v := ?_) (a' := ?_) #[true, true, true, false, false, false, false, false, false, false, false, false, false, false, false, false] rfl rfl (any_of HT_.out (by kernel_rfl)) (fun _ _ _ h => h) (Or.inl ⟨by rfl, ?_⟩) ?_ ?_
                         rotate_left
                         · intro w'
                           go_simp
                           with_reducible rfl
                         rotate_left
                         · simp only [Act.put, upL, i64_w, i32_w]
                           rfl
                         refine pure_ (i := 3) (N := some 39) (v := ?_) (a' := ?_) #[true, true, true, true, false, false, false, false, false, false, false, false, false, false, false, false] rfl rfl (any_of HT_.out (by kernel_rfl)) (fun _ _ _ h => h) (Or.inl ⟨by rfl, ?_⟩) ?_ ?_
                         rotate_left
                         · intro w'
                           go_simp
                           with_reducible rfl
                         rotate_left
                         · simp only [Act.put, upL, i64_w, i32_w]
                           rfl
                         refine pure_ (i := 4) (N := some 40) (v := ?_) (a' := ?_) #[true, true, true, true, true, false, false, false, false, false, false, false, false, false, false, false] rfl rfl (any_of HT_.out (by kernel_rfl)) (fun _ _ _ h => h) (Or.inl ⟨by rfl, ?_⟩) ?_ ?_
                         rotate_left
                         · intro w'
                           go_simp
                           with_reducible rfl
                         rotate_left
                         · simp only [Act.put, upL, i64_w, i32_w]
                           rfl
                         refine pure_ (i := 6) (N := some 42) (v := ?_) (a' := ?_) #[true, true, true, true, true, false, true, false, false, false, false, false, false, false, false, false] rfl rfl (any_of HT_.out (by kernel_rfl)) (fun _ _ _ h => h) (Or.inl ⟨by rfl, ?_⟩) ?_ ?_
                         rotate_left
                         · intro w'
                           go_simp
                           with_reducible rfl
                         rotate_left
                         · simp only [Act.put, upL, i64_w, i32_w]
                           rfl
                         refine pure_ (i := 7) (N := some 43) (v := ?_) (a' := ?_) #[true, true, true, true, true, false, true, true, false, false, false, false, false, false, false, false] rfl rfl (any_of HT_.out (by kernel_rfl)) (fun _ _ _ h => h) (Or.inl ⟨by rfl, ?_⟩) ?_ ?_
                         rotate_left
                         · intro w'
                           go_simp
                           with_reducible rfl
                         rotate_left
                         · simp only [Act.put, upL, i64_w, i32_w]
                           rfl
                         refine pure_ (i := 8) (N := some 44) (v := ?_) (a' := ?_) #[true, true, true, true, true, false, true, true, true, false, false, false, false, false, false, false] rfl rfl (any_of HT_.out (by kernel_rfl)) (fun _ _ _ h => h) (Or.inl ⟨by rfl, ?_⟩) ?_ ?_
                         rotate_left
                         · intro w'
                           go_simp
                           with_reducible rfl
                         rotate_left
                         · simp only [Act.put, upL, i64_w, i32_w]
                           rfl
                         refine pure_ (i := 10) (N := some 46) (v := ?_) (a' := ?_) #[true, true, true, true, true, false, true, true, true, false, true, false, false, false, false, false] rfl rfl (any_of HT_.out (by kernel_rfl)) (fun _ _ _ h => h) (Or.inl ⟨by rfl, ?_⟩) ?_ ?_
                         rotate_left
                         · intro w'
                           go_simp
                           with_reducible rfl
                         rotate_left
                         · simp only [Act.put, upL, i64_w, i32_w]
                           rfl
                         refine take_ (i := 5) (N := some 41) (v := ?_) (a' := ?_) #[true, true, true, true, true, true, true, true, true, false, true, false, false, false, false, false] rfl rfl (take_ofW HT_.out HW_.out (by kernel_rfl)) (fun _ _ _ h => h) (Or.inl ⟨by rfl, ?_⟩) hHeld ?_ ?_
                         rotate_left
                         · rintro w' ⟨s0, s1, s2⟩
                           go_simp
                           with_reducible rfl
                         rotate_left
                         · simp only [Act.put, upL, i64_w, i32_w]
                           rfl
                         refine take_ (i := 9) (N := some 45) (v := ?_) (a' := ?_) #[true, true, true, true, true, true, true, true, true, true, true, false, false, false, false, false] rfl rfl (take_ofW HT_.out HW_.out (by kernel_rfl)) (fun _ _ _ h => h) (Or.inl ⟨by rfl, ?_⟩) hHeld ?_ ?_
                         rotate_left
                         · rintro w' ⟨s0, s1, s2⟩
                           go_simp
                           with_reducible rfl
                         rotate_left
                         · simp only [Act.put, upL, i64_w, i32_w]
                           rfl
                         refine pure_ (i := 11) (N := some 47) (v := ?_) (a' := ?_) #[true, true, true, true, true, true, true, true, true, true, true, true, false, false, false, false] rfl rfl (any_of HT_.out (by kernel_rfl)) (fun _ _ _ h => h) (Or.inl ⟨by rfl, ?_⟩) ?_ ?_
                         rotate_left
                         · intro w'
                           go_simp
                           with_reducible rfl
                         rotate_left
                         · simp only [Act.put, upL, i64_w, i32_w]
                           rfl
                         refine take_ (i := 12) (N := some 48) (v := ?_) (a' := ?_) #[true, true, true, true, true, true, true, true, true, true, true, true, true, false, false, false] rfl rfl (take_ofW HT_.out HW_.out (by kernel_rfl)) (fun _ _ _ h => h) (Or.inl ⟨by rfl, ?_⟩) hHeld ?_ ?_
                         rotate_left
                         · rintro w' ⟨s0, s1, s2⟩
                           go_simp
                           with_reducible rfl
                         rotate_left
                         · simp only [Act.put, upL, i64_w, i32_w]
                           rfl
                         refine pure_ (i := 13) (N := some 49) (v := ?_) (a' := ?_) #[true, true, true, true, true, true, true, true, true, true, true, true, true, true, false, false] rfl rfl (any_of HT_.out (by kernel_rfl)) (fun _ _ _ h => h) (Or.inl ⟨by rfl, ?_⟩) ?_ ?_
                         rotate_left
                         · intro w'
                           go_simp
                           with_reducible rfl
                         rotate_left
                         · simp only [Act.put, upL, i64_w, i32_w]
                           rfl
                         refine pure_ (i := 14) (N := some 50) (v := ?_) (a' := ?_) #[true, true, true, true, true, true, true, true, true, true, true, true, true, true, true, false] rfl rfl (any_of HT_.out (by kernel_rfl)) (fun _ _ _ h => h) (Or.inl ⟨by rfl, ?_⟩) ?_ ?_
                         rotate_left
                         · intro w'
                           go_simp
                           with_reducible rfl
                         rotate_left
                         · simp only [Act.put, upL, i64_w, i32_w]
                           rfl
                         refine last_ (i := 15) (N := none) #[true, true, true, true, true, true, true, true, true, true, true, true, true, true, true, true] rfl rfl (one_of HT_.out (by kernel_rfl)) (by decide) (fun K hK => ?_)
                         refine skip_ (w1 := ?_) (by rfl) rfl ?_ ?_
                         rotate_left
                         · go_simp
                           rfl
                         refine hK.out _ _ ?_
                         clear hK K
                         refine done_ (done_of HT_.out (by kernel_rfl)) ?_
                         try go_wp2
                         go_roundg k2
                         case measure => have := HK1.out; have := HK2.out; omega
                         case rel => exact ⟨(y405), (wrap64 (x5_2 + 1)), (upE), H', ⟨by have := HK1.out; have := HK2.out; omega⟩, ⟨upR HQ21.out⟩, ⟨by repeat (first | (with_reducible first | exact HB.out | apply below_alloc | apply pw_below_drewN | apply below_drew1 | refine below_set ?_ GB13.out) | exact HB.out)⟩⟩
                       · rw [if_neg c14] at H
                         exact absurd H (by simp)
                     · rw [if_neg c12] at H
                       exact absurd H (by simp)
                   · rw [if_neg c11] at H
                     exact absurd H (by simp)
                 · rw [if_neg c10] at H
                   exact absurd H (by simp)
               · rw [if_neg c9] at H
                 exact absurd H (by simp)
             · rw [if_neg c8] at H
               exact absurd H (by simp)
           · rw [if_neg c7] at H
             have c7b0 : decide (x5_2 < (l0.length : Int)) = false := decide_eq_false c7
             clear c7
             have H' := sA H
             clear H
             go_wp2
             go_roundg k2
             case measure => have := HK1.out; have := HK2.out; omega
             case rel => exact ⟨(x3_2), (wrap64 (x4_1 + 1)), (upE), H', ⟨by have := HK1.out; have := HK2.out; omega⟩, ⟨upR HO_3.out⟩, ⟨upC HB.out⟩⟩
       · rw [if_neg c6] at H
         have c6b0 : decide (x4_1 < (l0.length : Int)) = false := decide_eq_false c6
         clear c6
         obtain rfl := Option.some.inj H
         go_wp2
         go_ret
         exact ⟨_, by first | rfl | (simp [errW_none, errW_some] <;> rfl) | (simp [*, errW_none, errW_some] <;> rfl), by (with_reducible repeat (first | apply Kd.R_alloc | apply Kd.R_drewN | apply Kd.R_drew)); exact HO_3.out, upC HB.out⟩
   · rw [if_neg c3] at H
     exact absurd H (by simp)
 · rw [if_neg c2] at H
   exact absurd H (by simp)
end Go.Proofs.Ytdljbmgknhbceaa.Q
namespace Go.Proofs.Ytdljbmgknhbceaa.Q
open Go.RowKit Go.Proofs.YtdljbmgknhbceaaW.PrintWords Go.Proofs.YtdljbmgknhbceaaW.PrintLast Go.Proofs.YtdljbmgknhbceaaW.PrintMore
attribute [local go_sem] max2_int min2_int max_two min_two max_three min_three max_four min_four
def kinkeepref35_Clone.l0 : Nat → List (List Int) → List (List Int) → Int → Option ((List (List Int)))
 | 0, _, _, _ => none
 | k + 1, x0, x3, x4 => if x4 < (x0.length : Int) then ((some (([] : List Int) : List Int)).bind fun y423 => (if 0 ≤ x4 then (if y423.length + (rd_L1 x0 x4).length < 17592186044416 then (if x3.length < 5864062014805 then (kinkeepref35_Clone.l0 k x0 (x3 ++ [(y423 ++ (rd_L1 x0 x4))]) (wrap64 (x4 + 1))) else (none)) else (none)) else (none))) else (some x3)
def kinkeepref35_Clone.f (k : Nat) (l0 : List (List Int)) : Option ((List (List Int))) := kinkeepref35_Clone.l0 k l0 (([] : List (List Int))) 0
theorem kinkeepref35_Clone.mono_l : ∀ k, (∀ y0 y1 y2, LeO (kinkeepref35_Clone.l0 k y0 y1 y2) (kinkeepref35_Clone.l0 (k + 1) y0 y1 y2))
 | 0 => fun _ _ _ r h => by simp [kinkeepref35_Clone.l0] at h
 | k + 1 => by
  have ih0 := kinkeepref35_Clone.mono_l k
  · intro y0 y1 y2
    unfold kinkeepref35_Clone.l0
    repeat' first
    | (with_reducible exact ih0 _ _ _)
    | (with_reducible exact LeO.refl _)
    | (with_reducible exact LeO.none _)
    | (with_reducible refine LeO.ite ?_ ?_)
    | (with_reducible refine LeO.bind ?_ (fun _ => ?_))
    | exact ih0 _ _ _
    | exact LeO.none _
    | refine LeO.ite ?_ ?_
    | refine LeO.bind ?_ (fun _ => ?_)
theorem kinkeepref35_Clone.mono : ∀ a0 k, LeO (kinkeepref35_Clone.f k a0) (kinkeepref35_Clone.f (k + 1) a0) := by
 intro a0 k
 have ih0 := kinkeepref35_Clone.mono_l k
 unfold kinkeepref35_Clone.f
 repeat' first
  | (with_reducible exact ih0 _ _ _)
  | (with_reducible exact LeO.refl _)
  | (with_reducible exact LeO.none _)
  | (with_reducible refine LeO.ite ?_ ?_)
  | (with_reducible refine LeO.bind ?_ (fun _ => ?_))
  | exact ih0 _ _ _
  | exact LeO.none _
  | refine LeO.ite ?_ ?_
  | refine LeO.bind ?_ (fun _ => ?_)
set_option maxHeartbeats 8000000 in
set_option maxRecDepth 100000 in
theorem kinkeepref35_Clone.calls (k : Nat) (A0 : Option Addr) (c0 : Nat) (l0 : List (List Int)) (r : List (List Int)) (w : World) (hr0 : Kd.C (Kd.slice 3 (Kd.int .i64)) w A0 l0.length l0) (hc0 : l0.length ≤ c0) (h : kinkeepref35_Clone.f k l0 = some r) :
 Calls Try.prog 32 #[.slice A0 l0.length c0] w fun e w' => ∃ v0_ : Value, e = .returned (v0_) ∧ Kd.S (Kd.slice 3 (Kd.int .i64)) 31 w' w.heap.size (fun _ => True) v0_ r ∧ Below w.heap.size w w' := by
 have HR0 := sA hr0
 have HC0 := sA hc0
 clear hr0 hc0
 have HB := sA (Below.refl w.heap.size w)
 have H : (kinkeepref35_Clone.l0 k l0 (([] : List (List Int))) 0) = some r := h
 clear h
 obtain ⟨y420, hy420⟩ : ∃ y_ : List (List Int), y_ = (([] : List (List Int))) := ⟨_, rfl⟩
 replace H : (kinkeepref35_Clone.l0 k l0 y420 0) = some r := by first | (rw [hy420]; with_reducible exact H) | (have H2_ := (Option.bind_some _ _).symm.trans H; rw [hy420]; with_reducible exact H2_) | (have H2_ := (Option.bind_some _ _).symm.trans H; with_reducible exact H2_) | with_reducible exact H | (rw [hy420]; exact H) | exact H
 have Ny420 := sA hy420
 clear hy420
 have H' := sA H
 clear H
 go_enter Try.func32, Try.ntmps32
 go_wp2_with (first | ((with_reducible refine gate_dst (N := 5) rfl ?_); refine Kd.S_lit (Kd.slice 3 (Kd.int .i64)) _ 31 ?hg (N := 5) ?hd (xs := ([] : List (List Int))) (inner := []) (ok := fun _ => True) (okp := fun _ => True) ?hr ?hp (fun _ hk => hk) trivial (Below.refl _ _) (Nat.le_refl _) (by simp) ?_; (case hd => rfl); (case hg => rfl); (case hr => first | (go_simp; done) | (go_simp; rfl)); (case hp => exact (Reps.none _ _)); intro v421 w2 ho3 hb hg_ hnew_; clear hg_ hnew_; (first | rw [← Ny420.out] at ho3 | (simp only [Int.reduceToNat] at ho3; rw [← Ny420.out] at ho3)); have n0_ := sA (Kd.S_lower ho3 (below_size (upC HB.out))); have n1_ := sA (below_step (upC HB.out) hb); clear HB; have HO422 := n0_; have HB := n1_; clear n0_ n1_; clear hb ho3))
 go_loopg [3, 4] k (fun kq v3 v4 w' => ∃ (x3_1 : List (List Int)) (x4_1 : Int), v4 = .int .i64 x4_1 ∧ Aside0 (kinkeepref35_Clone.l0 kq l0 x3_1 x4_1 = some r) ∧ Aside0 (kq ≤ k) ∧ Aside0 (Kd.S (Kd.slice 3 (Kd.int .i64)) 31 w' w.heap.size (fun _ => True) v3 x3_1) ∧ Aside0 (Below w.heap.size w w'))
 case atStart => exact ⟨(y420), (0), (upE), H', ⟨Nat.le_refl _⟩, ⟨upS HO422.out⟩, ⟨upC HB.out⟩⟩
 case round =>
  clear H'
  try clear p2
  try clear c3
  obtain ⟨x3_1, x4_1, rfl, HA, HK1, HO_3, HB⟩ := hrel
  cases gk with
  | zero => exact absurd HA.out (by simp [kinkeepref35_Clone.l0])
  | succ k1 =>
   have H := HA.out
   clear HA
   simp only [kinkeepref35_Clone.l0] at H
   by_cases c4 : x4_1 < (l0.length : Int)
   · rw [if_pos c4] at H
     have c4b0 : decide (x4_1 < (l0.length : Int)) = true := decide_eq_true c4
     clear c4
     obtain ⟨y423, hy423⟩ : ∃ y_ : List Int, y_ = (([] : List Int)) := ⟨_, rfl⟩
     replace H : (if 0 ≤ x4_1 then (if y423.length + (rd_L1 l0 x4_1).length < 17592186044416 then (if x3_1.length < 5864062014805 then (kinkeepref35_Clone.l0 k1 l0 (x3_1 ++ [(y423 ++ (rd_L1 l0 x4_1))]) (wrap64 (x4_1 + 1))) else (none)) else (none)) else (none)) = some r := by first | (rw [hy423]; with_reducible exact H) | (have H2_ := (Option.bind_some _ _).symm.trans H; rw [hy423]; with_reducible exact H2_) | (have H2_ := (Option.bind_some _ _).symm.trans H; with_reducible exact H2_) | with_reducible exact H | (rw [hy423]; exact H) | exact H
     have Ny423 := sA hy423
     clear hy423
     by_cases c5 : 0 ≤ x4_1
     · rw [if_pos c5] at H
       have c5b0 : decide (0 ≤ x4_1) = true := decide_eq_true c5
       clear c5
       by_cases c6 : y423.length + (rd_L1 l0 x4_1).length < 17592186044416
       · rw [if_pos c6] at H
         have LMc6 := sA c6
         clear c6
         obtain ⟨y427, hy427⟩ : ∃ y_ : List Int, y_ = (y423 ++ (rd_L1 l0 x4_1)) := ⟨_, rfl⟩
         replace H : (if x3_1.length < 5864062014805 then (kinkeepref35_Clone.l0 k1 l0 (x3_1 ++ [y427]) (wrap64 (x4_1 + 1))) else (none)) = some r := by first | (rw [hy427]; with_reducible exact H) | (have H2_ := (Option.bind_some _ _).symm.trans H; rw [hy427]; with_reducible exact H2_) | (have H2_ := (Option.bind_some _ _).symm.trans H; with_reducible exact H2_) | with_reducible exact H | (rw [hy427]; exact H) | exact H
         have Ny427 := sA hy427
         clear hy427
         by_cases c7 : x3_1.length < 5864062014805
         · rw [if_pos c7] at H
           have LMc7 := sA c7
           clear c7
           obtain ⟨y430, hy430⟩ : ∃ y_ : List (List Int), y_ = (x3_1 ++ [y427]) := ⟨_, rfl⟩
           replace H : (kinkeepref35_Clone.l0 k1 l0 y430 (wrap64 (x4_1 + 1))) = some r := by first | (rw [hy430]; with_reducible exact H) | (have H2_ := (Option.bind_some _ _).symm.trans H; rw [hy430]; with_reducible exact H2_) | (have H2_ := (Option.bind_some _ _).symm.trans H; with_reducible exact H2_) | with_reducible exact H | (rw [hy430]; exact H) | exact H
           have Ny430 := sA hy430
           clear hy430
           have H' := sA H
           clear H
           go_wp2_with (first | ((with_reducible refine gate_dst (N := 13) rfl ?_); refine Kd.R_lit (Kd.int .i64) _ 3 ?hg (N := 13) ?hd (xs := ([] : List Int)) (inner := []) (ok := fun _ => True) (okp := fun _ => True) ?hr ?hp (fun _ hk => hk) trivial (Below.refl _ _) (Nat.le_refl _) (by simp) ?_; (case hd => rfl); (case hg => rfl); (case hr => first | (go_simp; done) | (go_simp; rfl)); (case hp => exact (Reps.none _ _)); intro v424 w8 ho9 hb hg_ hnew_; clear hg_ hnew_; (first | rw [← Ny423.out] at ho9 | (simp only [Int.reduceToNat] at ho9; rw [← Ny423.out] at ho9)); have n0_ := sA (Kd.S_elder' (upS HO_3.out) (Kd.R_base ho9) hb); have n1_ := sA (Kd.R_lower ho9 (below_size (upC HB.out))); have n2_ := sA (below_step (upC HB.out) hb); clear HO_3; clear HB; have HO_3 := n0_; have HO425 := n1_; have HB := n2_; clear n0_ n1_ n2_; clear hb ho9; have p426 : 0 ≤ (x4_1 : Int) := upA; have q426 : x4_1 < (l0.length : Int) := upA; obtain ⟨ad426, A426_0, c426_0, e426, hx426_0, hl426_0, hi426_0⟩ := at_L1 HR0.out x4_1 p426 q426; cases e426; replace hx426_0 := (HB.out.cell (World.block_lt_of_cell? w _ hx426_0)).trans hx426_0; have HR426_0 := sA hi426_0; have HC426_0 := sA hl426_0; clear hi426_0 hl426_0; replace p426 := eq_true p426; replace q426 := eq_true q426) | ((with_reducible refine gate_builtin (b := .append) (xs := #[.tmp 13, .tmp 17]) rfl ?_); at_builtin; refine Kd.R_append_rows (Kd.int .i64) (w0 := w) w.heap.size rfl (.tmp 13) (.tmp 17) 31 3 (.int .i64 0) 8 rfl Try.underlying31 info3 rfl (by decide) (by omega) v424 y423 (rd_L1 l0 x4_1) _ _ _ (fun _ => True) (fun _ => False) rfl rfl ?aO ?aR (fun _ _ h => h) (fun _ h => h.elim) ?aF ?aB ?aS ?aL ?_; (case aR => exact upX (Kd.C_below HR426_0.out HB.out)); (case aB => exact (upC HB.out)); (case aF => exact (fun _ _ => trivial)); (case aO => exact (upR HO425.out)); (case aS => exact (below_size (upC HB.out))); (case aL => have := LMc6.out; omega); intro v428 w10 ho hb hg hat; rw [← Ny427.out] at ho; have n0_ := sA (Kd.S_after (ok := (fun _ => True)) (upS HO_3.out) hg hat); have n1_ := sA (hb); have n2_ := sA (ho); clear HO_3; clear HB; clear HO425; have HO_3 := n0_; have HB := n1_; have HO429 := n2_; clear n0_ n1_ n2_; clear ho hb hg hat; obtain ⟨Ao12, co12, eo12⟩ := Kd.R_slice HO429.out; subst eo12) | ((with_reducible refine gate_builtin (b := .append) (xs := #[.tmp 12, .tmp 19]) rfl ?_); at_builtin; refine Kd.S_append (Kd.slice 3 (Kd.int .i64)) (w0 := w) w.heap.size rfl (.tmp 12) (.tmp 19) 22 31 (.slice none 0 0) 24 rfl Try.underlying22 info31 rfl (by decide) (by omega) u3 x3_1 y427 [.slice Ao12 y427.length co12] (fun _ => True) (fun k_ => some k_ = (.slice Ao12 y427.length co12 : Value).ownBlock) rfl rfl ?aP (fun k_ hk_ => ((Kd.R_mono (ok' := fun k_ => ((fun _ => True)) k_ ∧ some k_ ≠ (u3 : Value).ownBlock) (Kd.R_apart' (HO429.out) (Kd.S_typed HO_3.out) (by decide)) (fun k_ hk => ⟨trivial, hk.2⟩))).1 k_ hk_.symm) ?aF ?aO ?aB ?aS ?aL ?_; (case aP => exact Kd.M_row (Kd.R_mono (Kd.R_tight rfl (Kd.R_mono (ok' := fun k_ => ((fun _ => True)) k_ ∧ some k_ ≠ (u3 : Value).ownBlock) (Kd.R_apart' (HO429.out) (Kd.S_typed HO_3.out) (by decide)) (fun k_ hk => ⟨trivial, hk.2⟩))) (fun _ h_ => h_))); (case aB => exact (upC HB.out)); (case aF => exact (fun _ _ => trivial)); (case aO => exact (by (with_reducible repeat (first | apply Kd.S_alloc | apply Kd.S_drewN | apply Kd.S_drew)); exact Kd.S_mono HO_3.out (fun k_ hk => ⟨trivial, fun e_ => hk.2 e_⟩))); (case aS => exact (below_size (upC HB.out))); (case aL => have := LMc7.out; omega); intro v431 w11 ho hb hg hat; rw [← Ny430.out] at ho; have n0_ := sA (hb); have n1_ := sA (ho); clear HB; clear HO_3; clear HO429; have HB := n0_; have HO432 := n1_; clear n0_ n1_; clear ho hb hg hat))
           go_roundg k1
           case measure => have := HK1.out; omega
           case rel => exact ⟨(y430), (wrap64 (x4_1 + 1)), (upE), H', ⟨by have := HK1.out; omega⟩, ⟨upS HO432.out⟩, ⟨upC HB.out⟩⟩
         · rw [if_neg c7] at H
           exact absurd H (by simp)
       · rw [if_neg c6] at H
         exact absurd H (by simp)
     · rw [if_neg c5] at H
       exact absurd H (by simp)
   · rw [if_neg c4] at H
     have c4b0 : decide (x4_1 < (l0.length : Int)) = false := decide_eq_false c4
     clear c4
     obtain rfl := Option.some.inj H
     go_wp2
     go_ret
     exact ⟨_, by first | rfl | (simp [errW_none, errW_some] <;> rfl) | (simp [*, errW_none, errW_some] <;> rfl), by (with_reducible repeat (first | apply Kd.S_alloc | apply Kd.S_drewN | apply Kd.S_drew)); exact HO_3.out, upC HB.out⟩
end Go.Proofs.Ytdljbmgknhbceaa.Q
namespace Go.Proofs.Ytdljbmgknhbceaa.Q
open Go.RowKit Go.Proofs.YtdljbmgknhbceaaW.PrintWords Go.Proofs.YtdljbmgknhbceaaW.PrintLast Go.Proofs.YtdljbmgknhbceaaW.PrintMore
attribute [local go_sem] max2_int min2_int max_two min_two max_three min_three max_four min_four
def kinkeepref35_in.l0 : Nat → List Int → Int → Int → Option (Bool)
 | 0, _, _, _ => none
 | k + 1, x0, x1, x5 => if x5 < (x0.length : Int) then (if 0 ≤ x5 then (if (rd x0 x5) = x1 then (some true) else (kinkeepref35_in.l0 k x0 x1 (wrap64 (x5 + 1)))) else (none)) else (some false)
def kinkeepref35_in.f (k : Nat) (l0 : List Int) (a1 : Int) : Option (Bool) := kinkeepref35_in.l0 k l0 a1 0
theorem kinkeepref35_in.mono_l : ∀ k, (∀ y0 y1 y2, LeO (kinkeepref35_in.l0 k y0 y1 y2) (kinkeepref35_in.l0 (k + 1) y0 y1 y2))
 | 0 => fun _ _ _ r h => by simp [kinkeepref35_in.l0] at h
 | k + 1 => by
  have ih0 := kinkeepref35_in.mono_l k
  · intro y0 y1 y2
    unfold kinkeepref35_in.l0
    repeat' first
    | (with_reducible exact ih0 _ _ _)
    | (with_reducible exact LeO.refl _)
    | (with_reducible exact LeO.none _)
    | (with_reducible refine LeO.ite ?_ ?_)
    | (with_reducible refine LeO.bind ?_ (fun _ => ?_))
    | exact ih0 _ _ _
    | exact LeO.none _
    | refine LeO.ite ?_ ?_
    | refine LeO.bind ?_ (fun _ => ?_)
theorem kinkeepref35_in.mono : ∀ a0 a1 k, LeO (kinkeepref35_in.f k a0 a1) (kinkeepref35_in.f (k + 1) a0 a1) := by
 intro a0 a1 k
 have ih0 := kinkeepref35_in.mono_l k
 unfold kinkeepref35_in.f
 repeat' first
  | (with_reducible exact ih0 _ _ _)
  | (with_reducible exact LeO.refl _)
  | (with_reducible exact LeO.none _)
  | (with_reducible refine LeO.ite ?_ ?_)
  | (with_reducible refine LeO.bind ?_ (fun _ => ?_))
  | exact ih0 _ _ _
  | exact LeO.none _
  | refine LeO.ite ?_ ?_
  | refine LeO.bind ?_ (fun _ => ?_)
set_option maxHeartbeats 8000000 in
set_option maxRecDepth 100000 in
theorem kinkeepref35_in.calls (k : Nat) (A0 : Option Addr) (c0 : Nat) (l0 : List Int) (a1 : Int) (r : Bool) (w : World) (hr0 : Kd.C (Kd.int .i64) w A0 l0.length l0) (hc0 : l0.length ≤ c0) (h : kinkeepref35_in.f k l0 a1 = some r) :
 Calls Try.prog 76 #[.slice A0 l0.length c0, .int .i64 a1] w fun e w' => e = .returned (.bool r) ∧ Drawn0 w w' := by
 have HR0 := sA hr0
 have HC0 := sA hc0
 clear hr0 hc0
 have H : (kinkeepref35_in.l0 k l0 a1 0) = some r := h
 clear h
 have H' := sA H
 clear H
 go_enter Try.func76, Try.ntmps76
 go_wp2
 go_loopg [5] k (fun kq v5 w' => ∃ (x5_1 : Int), v5 = .int .i64 x5_1 ∧ Aside0 (kinkeepref35_in.l0 kq l0 a1 x5_1 = some r) ∧ Aside0 (kq ≤ k) ∧ Drawn0 w w')
 case atStart => exact ⟨(0), (upE), H', ⟨Nat.le_refl _⟩, upD⟩
 case round =>
  clear H'
  try clear p2
  obtain ⟨x5_1, rfl, HA, HK1, ⟨m1, rfl⟩⟩ := hrel
  cases gk with
  | zero => exact absurd HA.out (by simp [kinkeepref35_in.l0])
  | succ k1 =>
   have H := HA.out
   clear HA
   simp only [kinkeepref35_in.l0] at H
   by_cases c3 : x5_1 < (l0.length : Int)
   · rw [if_pos c3] at H
     have c3b0 : decide (x5_1 < (l0.length : Int)) = true := decide_eq_true c3
     clear c3
     by_cases c4 : 0 ≤ x5_1
     · rw [if_pos c4] at H
       have c4b0 : decide (0 ≤ x5_1) = true := decide_eq_true c4
       clear c4
       by_cases c5 : (rd l0 x5_1) = a1
       · rw [if_pos c5] at H
         have c5b0 : ((rd l0 x5_1) == a1) = true := beq_iff_eq.mpr c5
         have c5b1 : ((rd l0 x5_1) != a1) = false := bne_eq_false_iff_eq.mpr c5
         clear c5
         obtain rfl := Option.some.inj H
         have p433 : 0 ≤ (x5_1 : Int) := upA
         have q433 : x5_1 < (l0.length : Int) := upA
         obtain ⟨ad433, e433, hx433_0⟩ := Kd.at_int HR0.out x5_1 p433 q433
         cases e433
         replace p433 := eq_true p433
         replace q433 := eq_true q433
         go_wp2
         go_ret
         exact ⟨upE, upD⟩
       · rw [if_neg c5] at H
         have c5b0 : ((rd l0 x5_1) == a1) = false := beq_eq_false_iff_ne.mpr c5
         have c5b1 : ((rd l0 x5_1) != a1) = true := bne_iff_ne.mpr c5
         have H' := sA H
         clear H
         have p433 : 0 ≤ (x5_1 : Int) := upA
         have q433 : x5_1 < (l0.length : Int) := upA
         obtain ⟨ad433, e433, hx433_0⟩ := Kd.at_int HR0.out x5_1 p433 q433
         cases e433
         replace p433 := eq_true p433
         replace q433 := eq_true q433
         go_wp2
         go_roundg k1
         case measure => have := HK1.out; omega
         case rel => exact ⟨(wrap64 (x5_1 + 1)), (upE), H', ⟨by have := HK1.out; omega⟩, upD⟩
     · rw [if_neg c4] at H
       exact absurd H (by simp)
   · rw [if_neg c3] at H
     have c3b0 : decide (x5_1 < (l0.length : Int)) = false := decide_eq_false c3
     clear c3
     obtain rfl := Option.some.inj H
     go_wp2
     go_ret
     exact ⟨upE, upD⟩
end Go.Proofs.Ytdljbmgknhbceaa.Q
end
section
namespace Go.Proofs.Ytdljbmgknhbceaa.P
open Go.RowKit Go.Proofs.YtdljbmgknhbceaaW.PrintWords Go.Proofs.Ytdljbmgknhbceaa.Q
theorem w64 {x : Int} (h : -9223372036854775808 ≤ x ∧ x ≤ 9223372036854775807) : wrap64 x = x := IntWalk.wrap64_in x h
theorem rd_eq (l : List Int) (i : Nat) (h : i < l.length) : rd l i = l[i] := by simp [rd, List.getD_eq_getElem?_getD, List.getElem?_eq_getElem h]
theorem rd1_eq (t : List (List Int)) (i : Nat) (h : i < t.length) : rd_L1 t i = t[i] := by simp [rd_L1, List.getD_eq_getElem?_getD, List.getElem?_eq_getElem h]
theorem more {α : Type} {f : Nat → Option α} (hm : ∀ k, LeO (f k) (f (k + 1))) {k k' : Nat} (h : k ≤ k') {r : α} (he : f k = some r) : f k' = some r := by
 induction h with
 | refl => exact he
 | step h ih => exact hm _ r ih
theorem within_f (x : Int) : kinkeepref35_within.f x = some (A.okN x) := by
 unfold kinkeepref35_within.f A.okN
 by_cases h : x ≥ 0
 · rw [if_pos h]; simp [h]
 · rw [if_neg h]; simp [h]
def rowTail (row : List Int) (i j : Nat) : Bool := !(A.badAny (row.drop j)) && (decide (i < j) || decide (rd row i = 0))
theorem valid_l1 (t : List (List Int)) (ht : t.length ≤ 9223372036854775807) (i : Nat) (hi : i < t.length) (row : List Int) (hrow : row = rd_L1 t i) (hl : row.length = t.length) (b : Bool) (hb : ∃ k, kinkeepref35_Valid.l0 k t ((i + 1 : Nat) : Int) = some b) :
 ∀ (m j : Nat), t.length - j ≤ m → j ≤ t.length → ∃ k, kinkeepref35_Valid.l1 k t (i : Int) (j : Int) = some (rowTail row i j && b) := by
 intro m
 have hwi : wrap64 ((i : Int) + 1) = ((i + 1 : Nat) : Int) := by rw [w64 (by omega)]; rfl
 have ends : ∀ j, t.length ≤ j → ∃ k, kinkeepref35_Valid.l1 k t (i : Int) (j : Int) = some (rowTail row i j && b) := by
  intro j hj
  obtain ⟨k, hk⟩ := hb
  refine ⟨k + 1, ?_⟩
  have c1 : ¬ ((j : Int) < (t.length : Int)) := by omega
  have e : rowTail row i j = true := by simp [rowTail, List.drop_of_length_le (show row.length ≤ j by omega), A.badAny]; omega
  rw [kinkeepref35_Valid.l1, if_neg c1, hwi, hk, e, Bool.true_and]
 induction m with
 | zero => intro j h1 h2; exact ends j (by omega)
 | succ m ih =>
  intro j h1 h2
  by_cases h : j < t.length
  · obtain ⟨k, hk⟩ := ih (j + 1) (by omega) (by omega)
    refine ⟨k + 1, ?_⟩
    have hwj : wrap64 ((j : Int) + 1) = ((j + 1 : Nat) : Int) := by rw [w64 (by omega)]; rfl
    have c1 : (j : Int) < (t.length : Int) := by omega
    have c2 : (0 : Int) ≤ (i : Int) := by omega
    have c3 : (i : Int) < (t.length : Int) := by omega
    have c4 : (0 : Int) ≤ (j : Int) := by omega
    have c5 : (j : Int) < ((rd_L1 t i).length : Int) := by rw [← hrow, hl]; omega
    rw [kinkeepref35_Valid.l1, if_pos c1, if_pos c2, if_pos c3, if_pos c4, if_pos c5, within_f, ← hrow, hwj, hk]
    have hjr : j < row.length := by omega
    have e0 : row.drop j = row[j] :: row.drop (j + 1) := List.drop_eq_getElem_cons hjr
    have er : rd row j = row[j] := rd_eq row j hjr
    have et : rowTail row i j = (A.okN row[j] && (!(A.badAny (row.drop (j + 1))) && (decide (i < j) || decide (rd row i = 0)))) := by
     unfold rowTail
     rw [e0]
     simp only [A.badAny, List.any_cons, Bool.not_or, Bool.not_not, Bool.and_assoc]
    rw [er]
    simp only [Option.bind_some]
    cases ho : A.okN row[j] with
    | false => rw [et, ho]; rfl
    | true =>
     rw [if_pos rfl, et, ho, Bool.true_and]
     by_cases hij : i = j
     · subst hij
       rw [if_pos rfl]
       by_cases hz : row[i] = 0
       · rw [if_pos hz]; simp [rowTail, er, hz]
       · rw [if_neg hz]; simp [er, hz]
     · rw [if_neg (by omega)]
       have : decide (i < j + 1) = decide (i < j) := by apply decide_eq_decide.2; omega
       rw [rowTail, this]
  · exact ends j (by omega)
theorem valid_l0 (t : List (List Int)) (ht : t.length ≤ 9223372036854775807) : ∀ (m i : Nat), t.length - i ≤ m → i ≤ t.length → ∃ k, kinkeepref35_Valid.l0 k t (i : Int) = some (A.rowsOk t.length (t.drop i) i && decide (t.length ≤ 12)) := by
 intro m
 have ends : ∀ i, t.length ≤ i → ∃ k, kinkeepref35_Valid.l0 k t (i : Int) = some (A.rowsOk t.length (t.drop i) i && decide (t.length ≤ 12)) := by
  intro i hi
  refine ⟨1, ?_⟩
  rw [kinkeepref35_Valid.l0, if_neg (by omega), List.drop_of_length_le hi]
  simp [A.rowsOk]
  omega
 induction m with
 | zero => intro i h1 h2; exact ends i (by omega)
 | succ m ih =>
  intro i h1 h2
  by_cases h : i < t.length
  · have hn := ih (i + 1) (by omega) (by omega)
    rw [A.rowsOk_drop _ _ _ h]
    by_cases hl : (rd_L1 t i).length = t.length
    · obtain ⟨k, hk⟩ := valid_l1 t ht i h _ rfl hl _ hn t.length 0 (by omega) (by omega)
      refine ⟨k + 1, ?_⟩
      rw [kinkeepref35_Valid.l0, if_pos (by omega), if_pos (by omega), if_pos (by omega)]
      refine Eq.trans hk ?_
      congr 1
      simp only [rowTail, A.rowOk, List.drop_zero, hl, decide_true, Bool.true_and, Nat.not_lt_zero, decide_false, Bool.false_or]
      cases A.badAny (rd_L1 t (i : Int)) <;> simp [Bool.and_assoc]
    · refine ⟨1, ?_⟩
      rw [kinkeepref35_Valid.l0, if_pos (by omega), if_pos (by omega), if_neg (by omega)]
      simp [A.rowOk, hl]
  · exact ends i (by omega)
theorem valid_f (t : List (List Int)) (ht : t.length ≤ 9223372036854775807) : ∃ k, kinkeepref35_Valid.f k t = some (A.validT t) := valid_l0 t ht t.length 0 (by omega) (by omega)
theorem held_l1 (t : List (List Int)) (ht : t.length ≤ 1000) (i : Nat) (hi : i < t.length) (hl : (rd_L1 t i).length = t.length) (res : List Int) :
 ∀ (m j : Nat) (acc : List Int), t.length - j ≤ m → j ≤ t.length → acc.length = t.length → (∃ k, kinkeepref35_Held.l0 k t (acc.set i (A.wsum ((rd_L1 t i).drop j) (rd acc i))) ((i + 1 : Nat) : Int) = some res) →
  ∃ k, kinkeepref35_Held.l1 k t acc (i : Int) (j : Int) = some res := by
 intro m
 have hwi : wrap64 ((i : Int) + 1) = ((i + 1 : Nat) : Int) := by rw [w64 (by omega)]; rfl
 have ends : ∀ (j : Nat) (acc : List Int), t.length ≤ j → acc.length = t.length → (∃ k, kinkeepref35_Held.l0 k t (acc.set i (A.wsum ((rd_L1 t i).drop j) (rd acc i))) ((i + 1 : Nat) : Int) = some res) →
  ∃ k, kinkeepref35_Held.l1 k t acc (i : Int) (j : Int) = some res := by
  intro j acc hj ha ⟨k, hk⟩
  refine ⟨k + 1, ?_⟩
  rw [kinkeepref35_Held.l1, if_neg (by omega), hwi]
  rw [List.drop_of_length_le (by omega), A.wsum, rd_eq acc i (by omega), List.set_getElem_self] at hk
  exact hk
 induction m with
 | zero => intro j acc h1 h2 h3 h4; exact ends j acc (by omega) h3 h4
 | succ m ih =>
  intro j acc h1 h2 h3 h4
  by_cases h : j < t.length
  · have hjr : j < (rd_L1 t i).length := by omega
    have e0 : (rd_L1 t i).drop j = (rd_L1 t i)[j] :: (rd_L1 t i).drop (j + 1) := List.drop_eq_getElem_cons hjr
    obtain ⟨k, hk⟩ := ih (j + 1) (acc.set i (wrap64 (rd acc i + (rd_L1 t i)[j]))) (by omega) (by omega) (by simpa using h3) (by
      obtain ⟨k, hk⟩ := h4
      refine ⟨k, ?_⟩
      rw [e0, A.wsum] at hk
      rw [List.set_set, rd_eq (acc.set i _) i (by simpa using (by omega : i < acc.length)), List.getElem_set_self]
      exact hk)
    refine ⟨k + 1, ?_⟩
    have hwj : wrap64 ((j : Int) + 1) = ((j + 1 : Nat) : Int) := by rw [w64 (by omega)]; rfl
    rw [kinkeepref35_Held.l1, if_pos (by omega), if_pos (by omega), if_pos (by omega), if_pos (by omega), if_pos (by omega), if_pos (by omega), hwj, rd_eq (rd_L1 t i) j hjr, Int.toNat_natCast]
    exact hk
  · exact ends j acc (by omega) h3 h4
theorem take_set_succ (l : List Int) (i : Nat) (v : Int) (h : i < l.length) : (l.set i v).take (i + 1) = l.take i ++ [v] := by
 rw [List.set_eq_take_append_cons_drop, if_pos h, List.take_append, List.take_take, List.length_take]
 rw [Nat.min_eq_right (by omega : i ≤ i + 1), Nat.min_eq_left (by omega), show i + 1 - i = 1 from by omega]
 rfl
theorem held_l0 (t : List (List Int)) (ht : t.length ≤ 1000) (hsq : ∀ i : Nat, i < t.length → (rd_L1 t i).length = t.length) :
 ∀ (m i : Nat) (acc : List Int), t.length - i ≤ m → i ≤ t.length → acc.length = t.length → (∀ j : Nat, i ≤ j → j < t.length → rd acc j = 0) → ∃ k, kinkeepref35_Held.l0 k t acc (i : Int) = some (acc.take i ++ (t.drop i).map fun r => A.wsum r 0) := by
 intro m
 have ends : ∀ (i : Nat) (acc : List Int), t.length ≤ i → acc.length = t.length → ∃ k, kinkeepref35_Held.l0 k t acc (i : Int) = some (acc.take i ++ (t.drop i).map fun r => A.wsum r 0) := by
  intro i acc hi ha
  refine ⟨1, ?_⟩
  rw [kinkeepref35_Held.l0, if_neg (by omega), List.drop_of_length_le hi, List.take_of_length_le (by omega)]
  simp
 induction m with
 | zero => intro i acc h1 h2 h3 h4; exact ends i acc (by omega) h3
 | succ m ih =>
  intro i acc h1 h2 h3 h4
  by_cases h : i < t.length
  · have hn := ih (i + 1) (acc.set i (A.wsum (rd_L1 t i) 0)) (by omega) (by omega) (by simpa using h3) (fun j hj hj2 => by
      have := h4 j (by omega) hj2
      rw [rd_eq _ j (by omega)] at this
      rw [rd_eq _ j (by simp; omega), List.getElem_set_ne (by omega)]
      exact this)
    obtain ⟨k, hk⟩ := held_l1 t ht i h (hsq i h) _ t.length 0 acc (by omega) (by omega) h3 (by rw [h4 i (Nat.le_refl i) h, List.drop_zero]; exact hn)
    refine ⟨k + 1, ?_⟩
    rw [kinkeepref35_Held.l0, if_pos (by omega)]
    refine Eq.trans hk ?_
    rw [take_set_succ _ _ _ (by omega), List.drop_eq_getElem_cons h, List.map_cons, rd1_eq t i h, List.append_assoc]
    rfl
  · exact ends i acc (by omega) h3
theorem sq_of {t : List (List Int)} (hv : A.validT t = true) (i : Nat) (h : i < t.length) : (rd_L1 t i).length = t.length := by
 rw [rd1_eq t i h]
 exact ((A.valid_sq hv).2 _ (List.getElem_mem h)).1
theorem held_f (t : List (List Int)) (hv : A.validT t = true) : ∃ k, kinkeepref35_Held.f k t = some (A.heldT t) := by
 have h12 := (A.valid_sq hv).1
 obtain ⟨k, hk⟩ := held_l0 t (by omega) (sq_of hv) t.length 0 (List.replicate t.length 0) (by omega) (by omega) (by simp) (fun j _ hj => by rw [rd_eq _ j (by simpa using hj)]; simp)
 refine ⟨k, ?_⟩
 unfold kinkeepref35_Held.f
 rw [if_pos (by omega), if_pos (by rw [Int.toNat_natCast]; omega), Int.toNat_natCast]
 simpa [A.heldT] using hk
def isum (f : Nat → Int) : Nat → Int
 | 0 => 0
 | n + 1 => isum f n + f n
theorem isum_bound (f : Nat → Int) (B : Int) : ∀ n : Nat, (∀ i, i < n → 0 ≤ f i ∧ f i ≤ B) → 0 ≤ isum f n ∧ isum f n ≤ n * B := by
 intro n
 induction n with
 | zero => intro _; simp [isum]
 | succ n ih =>
  intro h
  have h1 := ih (fun i hi => h i (by omega))
  have h2 := h n (by omega)
  rw [isum, show ((n + 1 : Nat) : Int) * B = n * B + B from by push_cast; rw [Int.add_mul]; omega]
  omega
theorem isum_congr {f g : Nat → Int} : ∀ {n : Nat}, (∀ i, i < n → f i = g i) → isum f n = isum g n := by
 intro n
 induction n with
 | zero => intro _; rfl
 | succ n ih => intro h; rw [isum, isum, ih (fun i hi => h i (by omega)), h n (by omega)]
theorem wsum_isum (l : List Int) (hl : l.length ≤ 1000) (hb : ∀ i : Nat, i < l.length → 0 ≤ rd l i ∧ rd l i ≤ 1099511627776) : ∀ n : Nat, n ≤ l.length → A.wsum (l.take n) 0 = isum (fun i => rd l i) n := by
 intro n
 induction n with
 | zero => intro _; simp [A.wsum, isum]
 | succ n ih =>
  intro h
  rw [List.take_add_one, List.getElem?_eq_getElem (by omega), Option.toList_some, A.wsum_snoc, ih (by omega), isum, ← rd_eq l n (by omega)]
  have h1 := isum_bound (fun i => rd l (i : Nat)) 1099511627776 n (fun i hi => hb i (by omega))
  have h2 := hb n (by omega)
  have h3 : (n : Int) * 1099511627776 ≤ 1000 * 1099511627776 := by omega
  exact w64 (by omega)
theorem wsum_full (l : List Int) (hl : l.length ≤ 1000) (hb : ∀ i : Nat, i < l.length → 0 ≤ rd l i ∧ rd l i ≤ 1099511627776) : A.wsum l 0 = isum (fun i => rd l i) l.length := by
 have := wsum_isum l hl hb l.length (Nat.le_refl _)
 rwa [List.take_length] at this
section
variable {t : List (List Int)} (hG : A.Good t.length t) (h12 : t.length ≤ 12)
include hG h12
theorem g_bound {i j : Nat} (hi : i < t.length) (hj : j < t.length) : 0 ≤ A.get t i j ∧ A.get t i j ≤ 1099511627776 := hG.2 i j (by omega) (by omega) (by omega) (by omega)
theorem rd_set {l : List Int} {i : Nat} (h : i < l.length) (v : Int) (d : Nat) (hd : d < l.length) : rd (l.set i v) d = if d = i then v else rd l d := by
 rw [rd_eq _ d (by simpa using hd), rd_eq l d hd, List.getElem_set]
 by_cases h : i = d
 · rw [if_pos h, if_pos h.symm]
 · rw [if_neg h, if_neg (fun e => h e.symm)]
end
end Go.Proofs.Ytdljbmgknhbceaa.P
namespace Go.Proofs.Ytdljbmgknhbceaa.P
open Go.RowKit Go.Proofs.YtdljbmgknhbceaaW.PrintWords Go.Proofs.Ytdljbmgknhbceaa.Q
theorem quotas_go (t : List (List Int)) (q : List Int) (hq : q.length ≤ 9223372036854775807) : ∀ (m i k : Nat), q.length - i ≤ m → i ≤ q.length → m < k → kinkeepref35_Quotas.l0 k t q (i : Int) = some (!(A.badAny (q.drop i)) && decide (q.length = t.length)) := by
 intro m
 have ends : ∀ (i k : Nat), q.length ≤ i → 0 < k → kinkeepref35_Quotas.l0 k t q (i : Int) = some (!(A.badAny (q.drop i)) && decide (q.length = t.length)) := by
  intro i k hi hk
  obtain ⟨k, rfl⟩ := Nat.exists_eq_succ_of_ne_zero (show k ≠ 0 by omega)
  rw [kinkeepref35_Quotas.l0, if_neg (by omega), List.drop_of_length_le hi]
  congr 1
  by_cases h : q.length = t.length
  · simp [A.badAny, h]
  · have : ¬ ((q.length : Int) = (t.length : Int)) := by omega
    simp [A.badAny, h, this]
 induction m with
 | zero => intro i k h1 h2 h3; exact ends i k (by omega) h3
 | succ m ih =>
  intro i k h1 h2 h3
  by_cases h : i < q.length
  · obtain ⟨k, rfl⟩ := Nat.exists_eq_succ_of_ne_zero (show k ≠ 0 by omega)
    have hw : wrap64 ((i : Int) + 1) = ((i + 1 : Nat) : Int) := by rw [w64 (by omega)]; rfl
    have e0 : q.drop i = q[i] :: q.drop (i + 1) := List.drop_eq_getElem_cons h
    rw [kinkeepref35_Quotas.l0, if_pos (by omega), if_pos (by omega), within_f, rd_eq q i h, Option.bind_some, hw, ih (i + 1) k (by omega) (by omega) (by omega), e0]
    cases ho : A.okN q[i] with
    | false => simp only [A.badAny, List.any_cons, ho]; rfl
    | true => simp only [A.badAny, List.any_cons, ho]; rfl
  · exact ends i k (by omega) (by omega)
theorem quotas_f (t : List (List Int)) (q : List Int) (hq : q.length ≤ 9223372036854775807) (k : Nat) (hk : q.length < k) : kinkeepref35_Quotas.f k t q = some (!(A.badAny q) && decide (q.length = t.length)) :=
 quotas_go t q hq q.length 0 k (by omega) (by omega) hk
end Go.Proofs.Ytdljbmgknhbceaa.P
namespace Go.Proofs.Ytdljbmgknhbceaa.P
open Go.RowKit Go.Proofs.YtdljbmgknhbceaaW.PrintWords Go.Proofs.Ytdljbmgknhbceaa.Q
def lowB (t : List (List Int)) (M : Int) : Bool := t.all fun row => decide (row.length ≤ 14) && row.all fun x => decide (x ≤ M)
theorem low_l1 (t : List (List Int)) (n M : Int) (ht : t.length ≤ 9223372036854775807) (i : Nat) (hi : i < t.length) (row : List Int) (hrow : row = rd_L1 t i) (hl : row.length ≤ 14) (b : Bool) (hb : ∃ k, kinkeeplaw35_low.l0 k t n M ((i + 1 : Nat) : Int) = some b) :
 ∀ (m j : Nat), row.length - j ≤ m → j ≤ row.length → ∃ k, kinkeeplaw35_low.l1 k t n M (i : Int) (j : Int) = some ((row.drop j).all (fun x => decide (x ≤ M)) && b) := by
 intro m
 have hwi : wrap64 ((i : Int) + 1) = ((i + 1 : Nat) : Int) := by rw [w64 (by omega)]; rfl
 have c0 : (0 : Int) ≤ (i : Int) := by omega
 have c1 : (i : Int) < (t.length : Int) := by omega
 have ends : ∀ j, row.length ≤ j → ∃ k, kinkeeplaw35_low.l1 k t n M (i : Int) (j : Int) = some ((row.drop j).all (fun x => decide (x ≤ M)) && b) := by
  intro j hj
  obtain ⟨k, hk⟩ := hb
  refine ⟨k + 1, ?_⟩
  rw [kinkeeplaw35_low.l1, if_pos c0, if_pos c1, ← hrow, if_neg (by omega), hwi, hk, List.drop_of_length_le hj]
  rfl
 induction m with
 | zero => intro j h1 h2; exact ends j (by omega)
 | succ m ih =>
  intro j h1 h2
  by_cases h : j < row.length
  · obtain ⟨k, hk⟩ := ih (j + 1) (by omega) (by omega)
    have hwj : wrap64 ((j : Int) + 1) = ((j + 1 : Nat) : Int) := by rw [w64 (by omega)]; rfl
    have e0 : row.drop j = row[j] :: row.drop (j + 1) := List.drop_eq_getElem_cons h
    refine ⟨k + 1, ?_⟩
    rw [kinkeeplaw35_low.l1, if_pos c0, if_pos c1, ← hrow, if_pos (by omega), if_pos (by omega), rd_eq row j h, hwj, hk, e0]
    by_cases hM : row[j] > M
    · rw [if_pos hM]
      have : ¬ row[j] ≤ M := by omega
      rw [List.all_cons, decide_eq_false this]; rfl
    · rw [if_neg hM]
      have : row[j] ≤ M := by omega
      rw [List.all_cons, decide_eq_true this]; rfl
  · exact ends j (by omega)
theorem low_l0 (t : List (List Int)) (n M : Int) (ht : t.length ≤ 9223372036854775807) : ∀ (m i : Nat), t.length - i ≤ m → i ≤ t.length → ∃ k, kinkeeplaw35_low.l0 k t n M (i : Int) = some (lowB (t.drop i) M && decide ((t.length : Int) ≤ n)) := by
 intro m
 have ends : ∀ i, t.length ≤ i → ∃ k, kinkeeplaw35_low.l0 k t n M (i : Int) = some (lowB (t.drop i) M && decide ((t.length : Int) ≤ n)) := by
  intro i hi
  refine ⟨1, ?_⟩
  rw [kinkeeplaw35_low.l0, if_neg (by omega), List.drop_of_length_le hi]
  rfl
 induction m with
 | zero => intro i h1 h2; exact ends i (by omega)
 | succ m ih =>
  intro i h1 h2
  by_cases h : i < t.length
  · have hn := ih (i + 1) (by omega) (by omega)
    have e0 : t.drop i = rd_L1 t i :: t.drop (i + 1) := by rw [rd1_eq t i h]; exact List.drop_eq_getElem_cons h
    by_cases hl : (rd_L1 t i).length ≤ 14
    · obtain ⟨k, hk⟩ := low_l1 t n M ht i h _ rfl hl _ hn _ 0 (Nat.le_refl _) (Nat.zero_le _)
      refine ⟨k + 1, ?_⟩
      rw [kinkeeplaw35_low.l0, if_pos (by omega), if_pos (by omega), if_neg (by omega)]
      refine Eq.trans hk ?_
      rw [e0]
      simp [lowB, hl, Bool.and_assoc]
    · refine ⟨1, ?_⟩
      rw [kinkeeplaw35_low.l0, if_pos (by omega), if_pos (by omega), if_pos (by omega), e0]
      simp [lowB, hl]
  · exact ends i (by omega)
theorem low_f (t : List (List Int)) (n M : Int) (ht : t.length ≤ 9223372036854775807) : ∃ k, kinkeeplaw35_low.f k t n M = some (lowB t M && decide ((t.length : Int) ≤ n)) := low_l0 t n M ht t.length 0 (by omega) (by omega)
theorem lowB_at {t : List (List Int)} {M : Int} (h : lowB t M = true) (i j : Nat) (hi : i < t.length) (hj : j < (rd_L1 t i).length) : A.get t i j ≤ M := by
 rw [lowB, List.all_eq_true] at h
 have h1 := h (rd_L1 t i) (by rw [rd1_eq t i hi]; exact List.getElem_mem hi)
 simp only [Bool.and_eq_true, decide_eq_true_eq, List.all_eq_true] at h1
 have := h1.2 ((rd_L1 t i)[j]) (List.getElem_mem hj)
 show rd (rd_L1 t i) j ≤ M
 rw [rd_eq _ j hj]
 exact this
end Go.Proofs.Ytdljbmgknhbceaa.P
namespace Go.Proofs.Ytdljbmgknhbceaa.P
open Go.RowKit Go.Proofs.YtdljbmgknhbceaaW.PrintWords Go.Proofs.Ytdljbmgknhbceaa.Q
theorem rowsOk_at (t : List (List Int)) (n : Nat) : ∀ (m i : Nat), i ≤ m → m < t.length → A.rowsOk n (t.drop i) i = true → A.rowOk n m (rd_L1 t m) = true := by
 intro m i hi hm h
 obtain ⟨d, hd⟩ : ∃ d, d = m - i := ⟨_, rfl⟩
 induction d generalizing i with
 | zero =>
  obtain rfl : i = m := by omega
  rw [A.rowsOk_drop _ _ _ hm, Bool.and_eq_true] at h
  exact h.1
 | succ d ih =>
  rw [A.rowsOk_drop _ _ _ (show i < t.length by omega), Bool.and_eq_true] at h
  exact ih (i + 1) (by omega) h.2 (by omega)
theorem valid_diag {t : List (List Int)} (h : A.validT t = true) (i : Nat) (hi : i < t.length) : A.get t i i = 0 := by
 rw [A.validT, Bool.and_eq_true] at h
 have := rowsOk_at t t.length i 0 (Nat.zero_le _) hi h.1
 simp only [A.rowOk, Bool.and_eq_true, decide_eq_true_eq] at this
 exact this.2.1
theorem isum_add (f g : Nat → Int) : ∀ n, isum (fun i => f i + g i) n = isum f n + isum g n := by
 intro n
 induction n with
 | zero => rfl
 | succ n ih => simp only [isum, ih]; omega
theorem isum_sub (f g : Nat → Int) : ∀ n, isum (fun i => f i - g i) n = isum f n - isum g n := by
 intro n
 induction n with
 | zero => rfl
 | succ n ih => simp only [isum, ih]; omega
theorem isum_zero : ∀ n, isum (fun _ => 0) n = 0 := by
 intro n
 induction n with
 | zero => rfl
 | succ n ih => simp only [isum, ih]; rfl
theorem isum_swap (f : Nat → Nat → Int) (n : Nat) : ∀ m, isum (fun i => isum (fun j => f i j) n) m = isum (fun j => isum (fun i => f i j) m) n := by
 intro m
 induction m with
 | zero => simp only [isum]; exact (isum_zero n).symm
 | succ m ih =>
  simp only [isum]
  rw [ih, ← isum_add]
end Go.Proofs.Ytdljbmgknhbceaa.P
namespace Go.Proofs.Ytdljbmgknhbceaa.P
open Go.RowKit Go.Proofs.YtdljbmgknhbceaaW.PrintWords Go.Proofs.Ytdljbmgknhbceaa.Q
theorem clone_go (t : List (List Int)) (hm : t.length ≤ 1000000) (hr : ∀ i : Nat, i < t.length → (rd_L1 t i).length ≤ 1000000) : ∀ (m i : Nat), t.length - i ≤ m → i ≤ t.length → ∃ k, kinkeepref35_Clone.l0 k t (t.take i) (i : Int) = some t := by
 have ends : ∀ i, t.length ≤ i → ∃ k, kinkeepref35_Clone.l0 k t (t.take i) (i : Int) = some t := by
  intro i hi
  refine ⟨1, ?_⟩
  rw [kinkeepref35_Clone.l0, if_neg (by omega), List.take_of_length_le hi]
 intro m
 induction m with
 | zero => intro i h1 h2; exact ends i (by omega)
 | succ m ih =>
  intro i h1 h2
  by_cases h : i < t.length
  · obtain ⟨k, hk⟩ := ih (i + 1) (by omega) (by omega)
    have hw : wrap64 ((i : Int) + 1) = ((i + 1 : Nat) : Int) := by rw [w64 (by omega)]; rfl
    have hri := hr i h
    have e : t.take (i + 1) = t.take i ++ [rd_L1 t i] := by rw [List.take_add_one, List.getElem?_eq_getElem h, Option.toList_some, rd1_eq t i h]
    refine ⟨k + 1, ?_⟩
    rw [kinkeepref35_Clone.l0, if_pos (by omega), Option.bind_some, if_pos (by omega), if_pos (by simp only [List.length_nil]; omega), if_pos (by rw [List.length_take]; omega), hw, List.nil_append, ← e]
    exact hk
  · exact ends i (by omega)
theorem clone_f (t : List (List Int)) (hm : t.length ≤ 1000000) (hr : ∀ i : Nat, i < t.length → (rd_L1 t i).length ≤ 1000000) : ∃ k, kinkeepref35_Clone.f k t = some t := clone_go t hm hr t.length 0 (by omega) (by omega)
end Go.Proofs.Ytdljbmgknhbceaa.P
namespace Go.Proofs.Ytdljbmgknhbceaa.P
open Go.RowKit Go.Proofs.YtdljbmgknhbceaaW.PrintWords Go.Proofs.Ytdljbmgknhbceaa.Q
theorem isum_pt (p : Nat) (v : Int) : ∀ n, isum (fun i => if i = p then v else 0) n = if p < n then v else 0 := by
 intro n
 induction n with
 | zero => rfl
 | succ n ih =>
  rw [isum, ih]
  by_cases h1 : p < n
  · rw [if_pos h1, if_neg (by omega), if_pos (by omega)]; omega
  · rw [if_neg h1]
    by_cases h2 : n = p
    · rw [if_pos h2, if_pos (by omega)]; omega
    · rw [if_neg h2, if_neg (by omega)]; rfl
section
variable {n : Nat} {t : List (List Int)} (hv : A.validT t = true) (hn : t.length = n) {f g o : Nat} {x : Int} (hf : f < n) (hg : g < n) (ho : o < n) (h1 : f ≠ g) (h2 : o ≠ f) (h3 : o ≠ g) (x0 : 1 ≤ x) (x1 : x ≤ 1099511627776)
 (hb : x ≤ A.get t f o) (hc : A.get t g o + x ≤ 1099511627776)
include hv hn hf hg ho h1 h2 h3 x0 x1 hb hc
end
end Go.Proofs.Ytdljbmgknhbceaa.P
end
section
namespace Go.Proofs.Ytdljbmgknhbceaa.A
open Go.RowKit Go.Proofs.YtdljbmgknhbceaaW.PrintWords Go.Proofs.YtdljbmgknhbceaaW.PrintLast Go.Proofs.YtdljbmgknhbceaaW.PrintMore Go.Proofs.Ytdljbmgknhbceaa.Q
def unv : List Int → Nat
 | [] => 0
 | x :: xs => (if x < 0 then 1 else 0) + unv xs
theorem unv_set (b : List Int) (y : Nat) (v : Int) (hy : y < b.length) (hb : b[y] < 0) (hv : 0 ≤ v) : unv (b.set y v) + 1 = unv b := by
 induction b generalizing y with
 | nil => simp at hy
 | cons x xs ih =>
  cases y with
  | zero =>
   simp only [List.getElem_cons_zero] at hb
   simp only [List.set_cons_zero, unv, if_pos hb, if_neg (show ¬ v < 0 by omega)]
   omega
  | succ y =>
   simp only [List.set_cons_succ, unv]
   have := ih y (by simpa using hy) (by simpa using hb)
   omega
theorem unv_replicate (n : Nat) : unv (List.replicate n (-1)) = n := by
 induction n with
 | zero => rfl
 | succ n ih => rw [List.replicate_succ, unv, ih]; simp; omega
def scanStep (x : Int) (row : List Int) (s : List Int × List Int) (y : Nat) : List Int × List Int :=
 if 0 < rd row y ∧ rd s.1 y < 0 then (s.1.set y x, s.2 ++ [(y : Int)]) else s
def scanTo (x : Int) (row : List Int) (s : List Int × List Int) : Nat → List Int × List Int
 | 0 => s
 | y + 1 => scanStep x row (scanTo x row s y) y
def bfs (g : List (List Int)) (tg : Int) : Nat → List Int × List Int → List Int
 | 0, s => s.1
 | f + 1, s => match s.2 with
  | [] => s.1
  | x :: q => if rd s.1 tg < 0 then bfs g tg f (scanTo x (rd_L1 g x) (s.1, q) g.length) else s.1
def initB (n : Nat) (s : Int) : List Int := (List.replicate n (-1)).set s.toNat s
def before (g : List (List Int)) (s t : Int) : List Int := bfs g t (g.length + 1) (initB g.length s, [s])
def trail (b : List Int) (s : Int) : Nat → Int → List (Int × Int)
 | 0, _ => []
 | f + 1, y => if y = s then [] else (rd b y, y) :: trail b s f (rd b y)
def lim (g : List (List Int)) : List (Int × Int) → Int → Int
 | [], l => l
 | e :: es, l => lim g es (min l (get g e.1 e.2))
def pushE (g : List (List Int)) (d : Int) (e : Int × Int) : List (List Int) :=
 let g1 := upd g e.1 e.2 (wrap64 (get g e.1 e.2 - d))
 upd g1 e.2 e.1 (wrap64 (get g1 e.2 e.1 + d))
def push (g : List (List Int)) (d : Int) : List (Int × Int) → List (List Int)
 | [] => g
 | e :: es => push (pushE g d e) d es
def augG (g : List (List Int)) (s t l : Int) : List (List Int) × Int :=
 let b := before g s t
 if rd b t < 0 then (g, 0) else
  let es := trail b s g.length t
  (push g (lim g es l) es, lim g es l)
def flowG (s t l : Int) : Nat → List (List Int) → Int → List (List Int) × Int
 | 0, g, sent => (g, sent)
 | f + 1, g, sent => if sent < l then (let r := augG g s t (l - sent); if r.2 = 0 then (r.1, sent) else flowG s t l f r.1 (sent + r.2)) else (g, sent)
structure BI (g : List (List Int)) (n : Nat) (s : Int) (b q : List Int) (cl : Int → Int → Prop) : Prop where
 len : b.length = n
 rng : ∀ y : Int, 0 ≤ y → y < n → -1 ≤ rd b y ∧ rd b y < n
 root : rd b s = s
 qin : ∀ x ∈ q, 0 ≤ x ∧ x < n ∧ 0 ≤ rd b x
 tree : ∃ (rk : Int → Nat) (m : Nat), m + unv b ≤ n ∧ ∀ y : Int, 0 ≤ y → y < n → 0 ≤ rd b y → rk y < m ∧ (y ≠ s → 0 ≤ rd b (rd b y) ∧ rk (rd b y) < rk y ∧ 0 < get g (rd b y) y)
 closed : ∀ x y : Int, 0 ≤ x → x < n → 0 ≤ y → y < n → 0 ≤ rd b x → x ∉ q → cl x y → 0 < get g x y → 0 ≤ rd b y
theorem rd_lt {l : List Int} {i : Int} (i0 : 0 ≤ i) (h : i < l.length) : rd l i = l[i.toNat]'(by omega) := by
 simp [rd, List.getD_eq_getElem?_getD, List.getElem?_eq_getElem (show i.toNat < l.length by omega)]
theorem BI.step {g : List (List Int)} {n : Nat} {s x : Int} {b q : List Int} {k : Nat} {cl : Int → Int → Prop} (h : BI g n s b q (fun a y => a ≠ x ∨ y < k)) (hx0 : 0 ≤ x) (hx1 : x < n) (hxb : 0 ≤ rd b x) (hk : k < n) (hs0 : 0 ≤ s) (hs1 : s < n) :
 BI g n s (scanStep x (rd_L1 g x) (b, q) k).1 (scanStep x (rd_L1 g x) (b, q) k).2 (fun a y => a ≠ x ∨ y < ((k + 1 : Nat) : Int)) ∧ 0 ≤ rd (scanStep x (rd_L1 g x) (b, q) k).1 x ∧
  unv (scanStep x (rd_L1 g x) (b, q) k).1 + (scanStep x (rd_L1 g x) (b, q) k).2.length = unv b + q.length := by
 unfold scanStep
 by_cases hc : 0 < rd (rd_L1 g x) k ∧ rd b k < 0
 · simp only [if_pos hc]
   have hkl : (k : Int) < (b.length : Int) := by rw [h.len]; omega
   have hr : ∀ y : Int, 0 ≤ y → rd (b.set k x) y = if y = k then x else rd b y := by
    intro y y0
    have := rd_set b (k : Int) y x (by omega) hkl y0
    rwa [Int.toNat_natCast] at this
   have hks : (k : Int) ≠ s := by
    intro e; have := h.root; rw [← e] at this; omega
   have hkx : (k : Int) ≠ x := by intro e; rw [← e] at hxb; omega
   have hun : unv (b.set k x) + 1 = unv b := by
    have hk' : k < b.length := by omega
    refine unv_set b k x hk' ?_ hx0
    have := rd_lt (l := b) (i := (k : Int)) (by omega) hkl
    simp only [Int.toNat_natCast] at this
    rw [← this]; exact hc.2
   refine ⟨⟨by simp [h.len], fun y y0 y1 => ?_, ?_, fun z hz => ?_, ?_, fun a y a0 a1 y0 y1 ha haq hcl hg => ?_⟩, ?_, ?_⟩
   · rw [hr y y0]
     split
     · omega
     · exact h.rng y y0 y1
   · rw [hr s hs0, if_neg (Ne.symm hks)]; exact h.root
   · rcases List.mem_append.1 hz with hz | hz
     · obtain ⟨z0, z1, z2⟩ := h.qin z hz
       refine ⟨z0, z1, ?_⟩
       rw [hr z z0]
       split
       · exact hx0
       · exact z2
     · rw [List.mem_singleton.1 hz]
       refine ⟨by omega, by omega, ?_⟩
       rw [hr _ (by omega), if_pos rfl]; exact hx0
   · obtain ⟨rk, m, hm, ht⟩ := h.tree
     refine ⟨fun y => if y = (k : Int) then m else rk y, m + 1, by omega, fun y y0 y1 hy => ?_⟩
     rw [hr y y0] at hy ⊢
     by_cases hyk : y = (k : Int)
     · simp only [if_pos hyk]
       refine ⟨by omega, fun _ => ?_⟩
       rw [hr x hx0, if_neg (Ne.symm hkx), if_neg (Ne.symm hkx)]
       refine ⟨hxb, (ht x hx0 hx1 hxb).1, ?_⟩
       rw [hyk]; exact hc.1
     · simp only [if_neg hyk] at hy ⊢
       obtain ⟨t1, t2⟩ := ht y y0 y1 hy
       refine ⟨by omega, fun hys => ?_⟩
       obtain ⟨t3, t4, t5⟩ := t2 hys
       have hne : rd b y ≠ (k : Int) := by intro e; rw [e] at t3; omega
       rw [hr _ hy, if_neg hne, if_neg hne]
       exact ⟨t3, t4, t5⟩
   · rw [hr a a0] at ha
     rw [hr y y0]
     by_cases hyk : y = (k : Int)
     · rw [if_pos hyk]; exact hx0
     · rw [if_neg hyk]
       have hak : a ≠ (k : Int) := by intro e; exact haq (List.mem_append.2 (.inr (by simp [e])))
       rw [if_neg hak] at ha
       refine h.closed a y a0 a1 y0 y1 ha (fun hq => haq (List.mem_append.2 (.inl hq))) ?_ hg
       rcases hcl with hcl | hcl
       · exact .inl hcl
       · exact .inr (by omega)
   · rw [hr x hx0, if_neg (Ne.symm hkx)]; exact hxb
   · simp; omega
 · simp only [if_neg hc]
   refine ⟨⟨h.len, h.rng, h.root, h.qin, h.tree, fun a y a0 a1 y0 y1 ha haq hcl hg => ?_⟩, hxb, by first | rfl | trivial⟩
   by_cases hak : a ≠ x ∨ y < k
   · exact h.closed a y a0 a1 y0 y1 ha haq hak hg
   · have hak1 : a = x := by
      by_cases e : a = x
      · exact e
      · exact absurd (.inl e) hak
     have hak2 : y = (k : Int) := by
      have h1 : ¬ y < k := fun e => hak (.inr e)
      rcases hcl with hcl | hcl
      · exact absurd hak1 hcl
      · omega
     subst hak1; subst hak2
     have hg' : 0 < rd (rd_L1 g a) k := hg
     have : ¬ rd b k < 0 := fun e => hc ⟨hg', e⟩
     omega
theorem BI.scan {g : List (List Int)} {n : Nat} {s x : Int} {b q : List Int} (h : BI g n s b (x :: q) (fun _ _ => True)) (hs0 : 0 ≤ s) (hs1 : s < n) (k : Nat) (hk : k ≤ n) :
 BI g n s (scanTo x (rd_L1 g x) (b, q) k).1 (scanTo x (rd_L1 g x) (b, q) k).2 (fun a y => a ≠ x ∨ y < (k : Int)) ∧ 0 ≤ rd (scanTo x (rd_L1 g x) (b, q) k).1 x ∧
  unv (scanTo x (rd_L1 g x) (b, q) k).1 + (scanTo x (rd_L1 g x) (b, q) k).2.length = unv b + q.length := by
 obtain ⟨x0, x1, xb⟩ := h.qin x List.mem_cons_self
 induction k with
 | zero =>
  refine ⟨⟨h.len, h.rng, h.root, fun z hz => h.qin z (List.mem_cons_of_mem _ hz), h.tree, fun a y a0 a1 y0 y1 ha haq hcl hg => ?_⟩, xb, rfl⟩
  rcases hcl with hcl | hcl
  · refine h.closed a y a0 a1 y0 y1 ha (fun hm => ?_) trivial hg
    rcases List.mem_cons.1 hm with e | e
    · exact hcl e
    · exact haq e
  · have : y < 0 := hcl
    omega
 | succ k ih =>
  obtain ⟨i1, i2, i3⟩ := ih (by omega)
  obtain ⟨j1, j2, j3⟩ := BI.step (cl := fun _ _ => True) i1 x0 x1 i2 (by omega) hs0 hs1
  exact ⟨j1, j2, j3.trans i3⟩
theorem BI.scanned {g : List (List Int)} {n : Nat} {s x : Int} {b q : List Int} (h : BI g n s b (x :: q) (fun _ _ => True)) (hs0 : 0 ≤ s) (hs1 : s < n) :
 BI g n s (scanTo x (rd_L1 g x) (b, q) n).1 (scanTo x (rd_L1 g x) (b, q) n).2 (fun _ _ => True) := by
 obtain ⟨h1, _, _⟩ := h.scan hs0 hs1 n (Nat.le_refl _)
 exact ⟨h1.len, h1.rng, h1.root, h1.qin, h1.tree, fun a y a0 a1 y0 y1 ha haq _ hg => h1.closed a y a0 a1 y0 y1 ha haq (.inr y1) hg⟩
theorem BI.init (g : List (List Int)) (n : Nat) (s : Int) (hs0 : 0 ≤ s) (hs1 : s < n) : BI g n s (initB n s) [s] (fun _ _ => True) := by
 have hl : (List.replicate n (-1 : Int)).length = n := by simp
 have hr : ∀ y : Int, 0 ≤ y → y < n → rd (initB n s) y = if y = s then s else -1 := by
  intro y y0 y1
  unfold initB
  rw [rd_set _ s y s hs0 (by rw [hl]; exact hs1) y0]
  congr 1
  rw [rd_lt y0 (by rw [hl]; exact y1)]
  simp
 have hun : unv (initB n s) + 1 = n := by
  unfold initB
  rw [unv_set _ s.toNat s (by rw [hl]; omega) (by simp) hs0, unv_replicate]
 refine ⟨by simp [initB], fun y y0 y1 => ?_, by rw [hr s hs0 hs1, if_pos rfl], fun x hx => ?_, ⟨fun _ => 0, 1, by omega, fun y y0 y1 hy => ⟨Nat.zero_lt_one, fun hne => ?_⟩⟩, fun x y x0 x1 _ _ hx hxq _ _ => ?_⟩
 · rw [hr y y0 y1]; split <;> omega
 · rw [List.mem_singleton.1 hx]; exact ⟨hs0, hs1, by rw [hr s hs0 hs1, if_pos rfl]; exact hs0⟩
 · rw [hr y y0 y1, if_neg hne] at hy; omega
 · rw [hr x x0 x1] at hx
   split at hx
   · rename_i e; exact absurd (List.mem_singleton.2 e) hxq
   · omega
theorem bfs_end {g : List (List Int)} {n : Nat} {s t : Int} (hgl : g.length = n) (hs0 : 0 ≤ s) (hs1 : s < n) : ∀ (f : Nat) (b q : List Int), BI g n s b q (fun _ _ => True) → unv b + q.length < f →
 ∃ q', BI g n s (bfs g t f (b, q)) q' (fun _ _ => True) ∧ (q' = [] ∨ 0 ≤ rd (bfs g t f (b, q)) t) := by
 intro f
 induction f with
 | zero => intro b q _ h; omega
 | succ f ih =>
  intro b q h hf
  cases q with
  | nil => exact ⟨[], h, .inl rfl⟩
  | cons x q =>
   rw [bfs]
   by_cases ht : rd b t < 0
   · simp only [if_pos ht]
     obtain ⟨_, _, h3⟩ := h.scan hs0 hs1 n (Nat.le_refl _)
     rw [hgl]
     exact ih _ _ (h.scanned hs0 hs1) (by simp at hf; omega)
   · simp only [if_neg ht]
     exact ⟨x :: q, h, .inr (by show 0 ≤ rd b t; omega)⟩
end Go.Proofs.Ytdljbmgknhbceaa.A
namespace Go.Proofs.Ytdljbmgknhbceaa.A
open Go.RowKit Go.Proofs.YtdljbmgknhbceaaW.PrintWords Go.Proofs.YtdljbmgknhbceaaW.PrintLast Go.Proofs.YtdljbmgknhbceaaW.PrintMore Go.Proofs.Ytdljbmgknhbceaa.Q
def unlim : Int := 1125899906842624
def nodeH (f : Int) : Int := 2 + f
def nodeT (n : Nat) (t : Int) : Int := 2 + n + t
def nodeP (n : Nat) (f o : Int) : Int := 2 + 2 * n + f * n + o
def netSize (n : Nat) : Nat := 2 + 2 * n + n * n
def sT (n : Nat) (has q : List Int) (f o : Int) (s : List (List Int) × List S29) (k : Nat) : List (List Int) × List S29 :=
 if o ≠ f ∧ (k : Int) ≠ f ∧ (k : Int) ≠ o ∧ rd has k ≤ rd q k then (upd s.1 (nodeP n f o) (nodeT n k) unlim, s.2 ++ [⟨f, k, o, 0⟩]) else s
def sTto (n : Nat) (has q : List Int) (f o : Int) (s : List (List Int) × List S29) : Nat → List (List Int) × List S29
 | 0 => s
 | k + 1 => sT n has q f o (sTto n has q f o s k) k
def sO (n : Nat) (has q : List Int) (t : List (List Int)) (f : Int) (s : List (List Int) × List S29) (o : Nat) : List (List Int) × List S29 :=
 sTto n has q f o (upd s.1 (nodeH f) (nodeP n f o) (get t f o), s.2) n
def sOto (n : Nat) (has q : List Int) (t : List (List Int)) (f : Int) (s : List (List Int) × List S29) : Nat → List (List Int) × List S29
 | 0 => s
 | k + 1 => sO n has q t f (sOto n has q t f s k) k
def sF (n : Nat) (has q : List Int) (t : List (List Int)) (s : List (List Int) × Int × List S29) (f : Nat) : List (List Int) × Int × List S29 :=
 if rd has f ≤ rd q f then (upd s.1 (nodeT n f) 1 (wrap64 (rd q f - rd has f)), s.2.1, s.2.2)
 else
  let r := sOto n has q t f (upd s.1 0 (nodeH f) (wrap64 (rd has f - rd q f)), s.2.2) n
  (r.1, wrap64 (s.2.1 + wrap64 (rd has f - rd q f)), r.2)
def sFto (n : Nat) (has q : List Int) (t : List (List Int)) (s : List (List Int) × Int × List S29) : Nat → List (List Int) × Int × List S29
 | 0 => s
 | k + 1 => sF n has q t (sFto n has q t s k) k
def zeroNet (n : Nat) : List (List Int) := List.replicate (netSize n) (List.replicate (netSize n) 0)
def buildNet (t : List (List Int)) (q : List Int) : List (List Int) × Int × List S29 := sFto t.length (heldT t) q t (zeroNet t.length, 0, []) t.length
def settleStep (n : Nat) (s : List (List Int) × List S29) (m : S29) : List (List Int) × List S29 :=
 let x := nodeP n m.f0 m.f2
 let y := nodeT n m.f1
 let r := flowG y x unlim unlim.toNat (upd (upd s.1 x y 0) y x 0) 0
 let b := wrap64 (get s.1 y x + r.2)
 (r.1, if 0 < b then s.2 ++ [⟨m.f0, m.f1, m.f2, b⟩] else s.2)
def settleGo (n : Nat) : List S29 → List (List Int) × List S29 → List (List Int) × List S29
 | [], s => s
 | m :: ms, s => settleGo n ms (settleStep n s m)
def settleOut (t : List (List Int)) (q : List Int) : List S29 × Int :=
 if fitsT t q = true then
  let b := buildNet t q
  let r := flowG 0 1 b.2.1 b.2.1.toNat b.1 0
  if r.2 < b.2.1 then ([], 7) else ((settleGo t.length b.2.2 (r.1, [])).2, 0)
 else ([], 1)
theorem nodeP_lt (n : Nat) (f o : Int) (f0 : 0 ≤ f) (f1 : f < n) (o0 : 0 ≤ o) (o1 : o < n) : 2 + 2 * (n : Int) ≤ nodeP n f o ∧ nodeP n f o < (netSize n : Int) := by
 have h1 : 0 ≤ f * (n : Int) := Int.mul_nonneg f0 (by omega)
 have h2 : f * (n : Int) ≤ ((n : Int) - 1) * (n : Int) := Int.mul_le_mul_of_nonneg_right (by omega) (by omega)
 have h3 : ((n : Int) - 1) * (n : Int) = (n : Int) * (n : Int) - n := by rw [Int.sub_mul]; omega
 have h4 : (netSize n : Int) = 2 + 2 * (n : Int) + (n : Int) * (n : Int) := by unfold netSize; push_cast; rfl
 rw [h4]
 unfold nodeP
 omega
theorem nodeT_lt (n : Nat) (t : Int) (t0 : 0 ≤ t) (t1 : t < n) : 0 ≤ nodeT n t ∧ nodeT n t < (netSize n : Int) := by
 have h4 : (netSize n : Int) = 2 + 2 * (n : Int) + (n : Int) * (n : Int) := by unfold netSize; push_cast; rfl
 have h5 : 0 ≤ (n : Int) * (n : Int) := Int.mul_nonneg (by omega) (by omega)
 rw [h4]
 unfold nodeT
 omega
theorem nodeH_lt (n : Nat) (t : Int) (t0 : 0 ≤ t) (t1 : t < n) : 0 ≤ nodeH t ∧ nodeH t < (netSize n : Int) := by
 have h4 : (netSize n : Int) = 2 + 2 * (n : Int) + (n : Int) * (n : Int) := by unfold netSize; push_cast; rfl
 have h5 : 0 ≤ (n : Int) * (n : Int) := Int.mul_nonneg (by omega) (by omega)
 rw [h4]
 unfold nodeH
 omega
theorem zeroNet_sq (n : Nat) : Sqn (netSize n) (zeroNet n) := by
 refine ⟨by simp [zeroNet], fun i i0 i1 => ?_⟩
 unfold zeroNet rd_L1
 rw [List.getD_eq_getElem?_getD, List.getElem?_replicate, if_pos (by omega)]
 simp
theorem wsum_bound : ∀ (l : List Int) (s : Int), (∀ x ∈ l, 0 ≤ x ∧ x ≤ 1099511627776) → 0 ≤ s → s + l.length * 1099511627776 ≤ 1152921504606846976 → s ≤ wsum l s ∧ wsum l s ≤ s + l.length * 1099511627776 := by
 intro l
 induction l with
 | nil => intro s _ h0 h1; simp [wsum]
 | cons x xs ih =>
  intro s hx h0 h1
  obtain ⟨x0, x1⟩ := hx x List.mem_cons_self
  simp only [List.length_cons] at h1
  have hw : wrap64 (s + x) = s + x := by unfold wrap64; omega
  rw [wsum, hw]
  have := ih (s + x) (fun y hy => hx y (List.mem_cons_of_mem _ hy)) (by omega) (by omega)
  simp only [List.length_cons]
  omega
theorem held_bound {t : List (List Int)} (h : validT t = true) (f : Int) (f0 : 0 ≤ f) (f1 : f < t.length) : 0 ≤ rd (heldT t) f ∧ rd (heldT t) f ≤ 13194139533312 := by
 obtain ⟨k, rfl⟩ := Int.eq_ofNat_of_zero_le f0
 rw [rd_held t k (by omega)]
 have hm : rd_L1 t (k : Int) ∈ t := by
  unfold rd_L1
  rw [Int.toNat_natCast, List.getD_eq_getElem?_getD, List.getElem?_eq_getElem (show k < t.length by omega)]
  exact List.getElem_mem _
 have hr := (valid_sq h).2 _ hm
 have hn := (valid_sq h).1
 have hb := hr.2
 rw [badAny, List.any_eq_false] at hb
 have := wsum_bound (rd_L1 t (k : Int)) 0 (fun x hx => by simpa [okN] using hb x hx) (by omega) (by omega)
 omega
theorem quota_bound {t : List (List Int)} {q : List Int} (h : fitsT t q = true) (f : Int) (f0 : 0 ≤ f) (f1 : f < t.length) : 0 ≤ rd q f ∧ rd q f ≤ 1099511627776 := by
 simp only [fitsT, Bool.and_eq_true, decide_eq_true_eq, Bool.not_eq_true'] at h
 obtain ⟨_, hl, hb⟩ := h
 rw [badAny, List.any_eq_false] at hb
 have hf : f.toNat < q.length := by omega
 have := hb (q[f.toNat]) (List.getElem_mem hf)
 have e : rd q f = q[f.toNat] := by simp [rd, List.getD_eq_getElem?_getD, List.getElem?_eq_getElem hf]
 rw [e]
 simpa [okN] using this
end Go.Proofs.Ytdljbmgknhbceaa.A
end
