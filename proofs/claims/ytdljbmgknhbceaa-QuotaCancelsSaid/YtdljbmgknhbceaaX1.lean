import Derived.Test.YtdljbmgknhbceaaMc
import Derived.Lib.SliceRun
namespace Go.Proofs.Ytdljbmgknhbceaa.A
open Go.RowKit Go.Proofs.YtdljbmgknhbceaaW.PrintWords Go.Proofs.YtdljbmgknhbceaaW.PrintLast Go.Proofs.YtdljbmgknhbceaaW.PrintMore Go.Proofs.Ytdljbmgknhbceaa.Q
set_option linter.unusedVariables false
set_option linter.unusedSimpArgs false

theorem in_go (l : List Int) (x : Int) (hm : l.length ≤ 1000000) : ∀ (m i k : Nat), l.length - i ≤ m → i ≤ l.length → m < k → kinkeepref35_in.l0 k l x (i : Int) = some ((l.drop i).contains x) := by
  have ends : ∀ i k : Nat, l.length ≤ i → 0 < k → kinkeepref35_in.l0 k l x (i : Int) = some ((l.drop i).contains x) := by
    intro i k hi hk
    obtain ⟨k, rfl⟩ := Nat.exists_eq_succ_of_ne_zero (show k ≠ 0 by omega)
    rw [kinkeepref35_in.l0, if_neg (by omega), List.drop_of_length_le hi]
    rfl
  intro m
  induction m with
  | zero => intro i k h1 h2 h3; exact ends i k (by omega) h3
  | succ m ih =>
    intro i k h1 h2 h3
    by_cases h : i < l.length
    · obtain ⟨k, rfl⟩ := Nat.exists_eq_succ_of_ne_zero (show k ≠ 0 by omega)
      have hw : wrap64 ((i : Int) + 1) = ((i + 1 : Nat) : Int) := by rw [P.w64 (by omega)]; rfl
      rw [kinkeepref35_in.l0, if_pos (by omega), if_pos (by omega), P.rd_eq l i h, hw, ih (i + 1) k (by omega) (by omega) (by omega), List.drop_eq_getElem_cons h, List.contains_cons]
      by_cases e : l[i] = x
      · rw [if_pos e, e]; simp
      · rw [if_neg e]
        have : (x == l[i]) = false := beq_eq_false_iff_ne.2 (fun h => e h.symm)
        rw [this, Bool.false_or]
    · exact ends i k (by omega) (by omega)
theorem in_any (A0 : Option Addr) (c0 : Nat) (l : List Int) (x : Int) (w : World) (hr0 : Kd.C (Kd.int .i64) w A0 l.length l) (hc0 : l.length ≤ c0) (hl : l.length < 1000) :
    Calls Try.prog 76 #[.slice A0 l.length c0, .int .i64 x] w fun e w' => e = .returned (.bool (l.contains x)) ∧ Drawn0 w w' :=
  kinkeepref35_in.calls 1000 A0 c0 l x _ w hr0 hc0 (by unfold kinkeepref35_in.f; exact in_go l x (by omega) l.length 0 1000 (by omega) (by omega) (by omega))

/-- What the reference's 'extend' leaves. -/
def Aft (w : World) (Ap : Option Addr) (r : List Int) (e : Ending) (w' : World) : Prop :=
  Below w.heap.size w w' ∧ ((r = [] ∧ e = .returned (.slice none 0 0)) ∨ (r ≠ [] ∧ ∃ (ad : Addr) (cc : Nat), e = .returned (.slice (some ad) r.length cc) ∧ Kd.C (Kd.int .i64) w' (some ad) r.length r ∧ r.length ≤ cc ∧ (some ad = Ap ∨ w.heap.size ≤ ad.block)))

set_option maxHeartbeats 1000000 in
set_option maxRecDepth 100000 in
theorem ex_zero (A : Option Addr) (c : Nat) (t : List (List Int)) (w : World) (ht : Kd.C KT w A t.length t) (hq : Sq t) (Ap : Option Addr) (cp : Nat) (path : List Int) (hp : Kd.C (Kd.int .i64) w Ap path.length path) (hcp : path.length ≤ cp) (len : Nat)
    (hl : path.length = len) (hn : 0 < path.length) (hi : Ins t path) (hb : path.length < 1000) :
    Calls Try.prog 72 #[.slice A t.length c, .slice Ap path.length cp, .int .i64 len] w (Aft w Ap (ext t len 0 path)) := by
  obtain ⟨ad, e, hx1⟩ := Kd.at_int hp ((path.length : Int) - 1) (by omega) (by omega)
  cases e
  obtain ⟨ad', e, hx0⟩ := Kd.at_int hp 0 (by omega) (by omega)
  cases e
  rw [show (0 : Int).toNat = 0 from rfl, Go.Addr.add_zero'] at hx0
  have L := hi ((path.length : Int) - 1) (by omega) (by omega)
  have F := hi 0 (by omega) (by omega)
  obtain ⟨adt, A1, c1, e, hxt, hl1, hi1⟩ := at_L1 ht (last path) L.1 L.2
  cases e
  obtain ⟨adr, e, hxr⟩ := Kd.at_int hi1 (rd path 0) F.1 (by rw [hq (last path) L.1 L.2]; exact F.2)
  cases e
  have hq1 : (rd_L1 t (last path)).length = t.length := hq _ L.1 L.2
  obtain ⟨lst, hlst⟩ : ∃ x, x = rd path ((path.length : Int) - 1) := ⟨_, rfl⟩
  have hlast : last path = lst := hlst.symm
  rw [hlast] at hxt hl1 hi1 hxr hq1
  rw [← hlst] at hx1 L
  rw [show ((path.length : Int) - 1).toNat = path.length - 1 from by omega] at hx1
  obtain ⟨L0, L1⟩ := L
  obtain ⟨F0, F1⟩ := F
  have F2 : rd path 0 < ((rd_L1 t lst).length : Int) := by rw [hq1]; exact F1
  have hf : Aside0 (ext t len 0 path = if 0 < rd (rd_L1 t lst) (rd path 0) then path else []) := ⟨by rw [ext, hlast]⟩
  have k1 : ((path.length : Int) == (len : Int)) = true := beq_iff_eq.2 (by omega)
  have k2 : (path.length == len) = true := beq_iff_eq.2 (by omega)
  have HP := Aside0.mk (And.intro hp hcp)
  have HN := Aside0.mk hn
  clear ht hq hp hcp hi hlst hl hq1 hlast hi1 hl1
  by_cases hg : 0 < rd (rd_L1 t lst) (rd path 0)
  · have hfin : Aside0 (ext t len 0 path = path) := ⟨by rw [hf.out, if_pos hg]⟩
    have hgb : decide (0 < rd (rd_L1 t lst) (rd path 0)) = true := decide_eq_true hg
    clear hg hf
    go_enter Try.func72, Try.ntmps72
    go_wp2
    repeat (go_quiet (fail); try go_wp2)
    go_ret
    refine ⟨pw_below_drewN (Below.refl _ _) _, Or.inr ⟨by rw [hfin.out]; exact List.length_pos_iff.1 HN.out, ad, cp, by rw [hfin.out]; rfl, by rw [hfin.out]; exact Kd.C_drewN HP.out.1 _, by rw [hfin.out]; exact HP.out.2, Or.inl rfl⟩⟩
  · have hfin : Aside0 (ext t len 0 path = []) := ⟨by rw [hf.out, if_neg hg]⟩
    have hgb : decide (0 < rd (rd_L1 t lst) (rd path 0)) = false := decide_eq_false hg
    clear hg hf
    go_enter Try.func72, Try.ntmps72
    go_wp2
    repeat (go_quiet (fail); try go_wp2)
    go_ret
    exact ⟨pw_below_drewN (Below.refl _ _) _, Or.inl ⟨hfin.out, rfl⟩⟩

set_option maxHeartbeats 2000000 in
set_option maxRecDepth 100000 in
theorem ex_any (A : Option Addr) (c : Nat) (t : List (List Int)) (hg : Good t.length t) (hn100 : t.length ≤ 1000) (len : Nat) (hlen : len < 1000) :
    ∀ (f : Nat) (path : List Int) (Ap : Option Addr) (cp : Nat) (w : World), Kd.C KT w A t.length t → Kd.C (Kd.int .i64) w Ap path.length path → path.length ≤ cp → path.length + f = len → 0 < path.length → Ins t path →
    Calls Try.prog 72 #[.slice A t.length c, .slice Ap path.length cp, .int .i64 len] w (Aft w Ap (ext t len f path)) := by
  intro f
  induction f with
  | zero => intro path Ap cp w ht hp hcp hl hn hi; exact ex_zero A c t w ht hg.1.2 Ap cp path hp hcp len (by omega) hn hi (by omega)
  | succ f ih =>
    intro path Ap cp w ht hp hcp hl hn hi
    have HTW := Aside0.mk ht
    have HPW := Aside0.mk hp
    have HIH := Aside0.mk ih
    have HG := Aside0.mk hg
    obtain ⟨ad, e, hx1⟩ := Kd.at_int hp ((path.length : Int) - 1) (by omega) (by omega)
    cases e
    obtain ⟨ad', e, hx0⟩ := Kd.at_int hp 0 (by omega) (by omega)
    cases e
    rw [show (0 : Int).toNat = 0 from rfl, Go.Addr.add_zero'] at hx0
    have L := hi ((path.length : Int) - 1) (by omega) (by omega)
    have F := hi 0 (by omega) (by omega)
    have HII := Aside0.mk hi
    obtain ⟨lst, hlst⟩ : ∃ x, x = rd path ((path.length : Int) - 1) := ⟨_, rfl⟩
    have hlast : last path = lst := hlst.symm
    rw [← hlst] at hx1 L
    rw [show ((path.length : Int) - 1).toNat = path.length - 1 from by omega] at hx1
    obtain ⟨L0, L1⟩ := L
    obtain ⟨F0, F1⟩ := F
    have hf : Aside0 (ext t len (f + 1) path = firstOf (step t len f path lst) (upTo (rd path 0 + 1) t.length)) := ⟨by rw [ext, hlast]; rfl⟩
    have k1 : ((path.length : Int) == (len : Int)) = false := beq_eq_false_iff_ne.2 (by omega)
    have k2 : (path.length == len) = false := beq_eq_false_iff_ne.2 (by omega)
    have hq1 : Aside0 ((rd_L1 t lst).length = t.length) := ⟨hg.1.2 _ L0 L1⟩
    have hpl : path.length < 1000 := by omega
    have HL := Aside0.mk hl
    have HCP := Aside0.mk hcp
    clear ht hg hp hi hlst hl hlast ih hcp
    go_enter Try.func72, Try.ntmps72
    go_wp2
    have qT : ∀ (w : World) (a : Option Addr) (n c n' c' : Nat), (binOp .neq 31 (.slice a n c) (.slice none n' c')).run Try.prog w = .ok (.bool (!a.isNone)) w := fun w a n c n' c' => run_neq_slice_nil_any w _ _ a n c n' c' Try.underlying31
    go_loopw [8] (fun d wr => ∃ (x : Int), d = .int .i64 x ∧ Aside0 (0 ≤ x) ∧ Aside0 (ext t len (f + 1) path = firstOf (step t len f path lst) (upTo x t.length)) ∧ Aside0 (Below w.heap.size w wr)) (fun d _ => t.length - (intOf d).toNat)
    case atStart => exact ⟨rd path 0 + 1, rfl, ⟨by omega⟩, hf, ⟨by first | exact Below.refl _ _ | exact pw_below_drewN (Below.refl _ _) _⟩⟩
    case round =>
      clear hx0 hx1 hf
      obtain ⟨x, rfl, ⟨x0⟩, hE, HB⟩ := hrel
      obtain ⟨adt, A1, c1, e, hxt, hl1, hi1⟩ := at_L1 (Kd.C_below HTW.out HB.out) lst L0 L1
      cases e
      clear hl1
      by_cases hlt : x < t.length
      · have hlb : decide (x < (t.length : Int)) = true := decide_eq_true hlt
        have hup := Aside0.mk (upTo_cons x t.length x0 hlt)
        obtain ⟨adr, e, hxr⟩ := Kd.at_int hi1 x x0 (by rw [hq1.out]; exact hlt)
        cases e
        have hx2 : x < ((rd_L1 t lst).length : Int) := by rw [hq1.out]; exact hlt
        have hge : 0 ≤ rd (rd_L1 t lst) x := (HG.out.2 lst x L0 L1 x0 hlt).1
        clear hi1
        by_cases hz : 0 < rd (rd_L1 t lst) x
        · have hzb : decide (0 < rd (rd_L1 t lst) x) = true := decide_eq_true hz
          have HRP := Aside0.mk (Kd.C_below HPW.out HB.out)
          cases hcn : path.contains x with
          | true =>
            have hno : Aside0 (step t len f path lst x = []) := ⟨by rw [step, if_pos (.inr hcn)]⟩
            have hcn' := Aside0.mk hcn
            clear hz hcn hge
            go_wp2_with (go_at_call 76; refine (in_any _ _ _ _ _ (by first | exact HRP.out | exact Kd.C_drewN HRP.out _) HCP.out hpl).mono ?_; rw [hcn'.out]; rintro e w' ⟨rfl, ⟨m2, rfl⟩⟩)
            go_roundw
            case rel => exact ⟨x + 1, by first | rfl | go_num, ⟨by omega⟩, ⟨by rw [hE.out, hup.out, firstOf_no _ _ _ hno.out]⟩, ⟨by repeat (first | (with_reducible first | exact HB.out | apply below_alloc | apply pw_below_drewN | apply below_drew1) | exact HB.out)⟩⟩
            case measure => simp [intOf]; omega
          | false =>
            have hst : Aside0 (step t len f path lst x = ext t len f (path ++ [x])) := ⟨by
              rw [step, if_neg]
              rintro (h | h)
              · omega
              · rw [hcn] at h; cases h⟩
            have hcn' := Aside0.mk hcn
            have hins : Aside0 (Ins t (path ++ [x])) := ⟨by
              intro i i0 i1
              rw [List.length_append] at i1
              by_cases hi2 : i < path.length
              · have := HII.out i i0 hi2
                have e : rd (path ++ [x]) i = rd path i := by
                  exact rd_left path x i i0 hi2
                rwa [e]
              · have e : rd (path ++ [x]) i = x := by
                  obtain rfl : i = path.length := by simp at i1; omega
                  exact rd_right path x
                rw [e]
                exact ⟨x0, hlt⟩⟩
            clear hz hcn hge
            obtain ⟨P1, hP1⟩ : ∃ p, Aside0 (p = path ++ [x]) := ⟨_, ⟨rfl⟩⟩
            obtain ⟨r, hr⟩ : ∃ r, r = ext t len f P1 := ⟨_, rfl⟩
            have HR := Aside0.mk hr
            have hre : Aside0 (r = step t len f path lst x) := ⟨by rw [hr, hP1.out, hst.out]⟩
            clear hr hst
            cases r with
            | nil =>
              go_wp2_with (first
                | (go_at_call 76; refine (in_any _ _ _ _ _ (by first | exact HRP.out | exact Kd.C_drewN HRP.out _) HCP.out hpl).mono ?_; rw [hcn'.out]; rintro e w' ⟨rfl, ⟨m2, rfl⟩⟩)
                | ((with_reducible refine gate_dst (N := 56) rfl ?_); refine Kd.R_lit (Kd.int .i64) _ 3 ?hg (N := 56) ?hd (xs := ([] : List Int)) (inner := []) (ok := fun _ => True) (okp := fun _ => True) ?hr ?hp (fun _ hk => hk) trivial (Below.refl _ _) (Nat.le_refl _) (by simp) ?_; (case hd => rfl); (case hg => rfl); (case hr => first | (go_simp; done) | (go_simp; rfl)); (case hp => exact (Reps.none _ _)); intro v56 w56 ho9 hb hg_ hnew_; clear hg_ hnew_; have HB1 := Aside0.mk (below_step (by repeat (first | (with_reducible first | exact HB.out | apply below_alloc | apply pw_below_drewN | apply below_drew1) | exact HB.out)) hb); have HO1 := Aside0.mk (Kd.R_lower ho9 (below_size (by repeat (first | (with_reducible first | exact HB.out | apply below_alloc | apply pw_below_drewN | apply below_drew1) | exact HB.out)))); clear hb ho9)
                | ((with_reducible refine gate_builtin (b := .append) (xs := #[.tmp 56, .tmp 57]) rfl ?_); at_builtin; refine Kd.R_append_rows (Kd.int .i64) (w0 := w) w.heap.size rfl (.tmp 56) (.tmp 57) 31 3 (.int .i64 0) 8 rfl Try.underlying31 info3 rfl (by decide) (by omega) v56 [] path _ _ _ (fun _ => True) (fun _ => False) rfl rfl ?aO ?aR (fun _ _ h => h) (fun _ h => h.elim) ?aF ?aB ?aS ?aL ?_; (case aR => exact (Kd.C_below HPW.out (by repeat (first | (with_reducible first | exact HB1.out | apply below_alloc | apply pw_below_drewN | apply below_drew1) | exact HB1.out)))); (case aB => exact (by repeat (first | (with_reducible first | exact HB1.out | apply below_alloc | apply pw_below_drewN | apply below_drew1) | exact HB1.out))); (case aF => exact (fun _ _ => trivial)); (case aO => exact (by (with_reducible repeat (first | apply Kd.R_alloc | apply Kd.R_drewN | apply Kd.R_drew)); exact HO1.out)); (case aS => exact (below_size (by repeat (first | (with_reducible first | exact HB1.out | apply below_alloc | apply pw_below_drewN | apply below_drew1) | exact HB1.out)))); (case aL => simp; omega); intro v58 w58 ho hb hg hat; rw [List.nil_append] at ho; have HB2 := Aside0.mk hb; have HO2 := Aside0.mk ho; clear ho hb hg hat)
                | ((with_reducible refine gate_builtin (b := .append) (xs := #[.tmp 58, .tmp 60]) rfl ?_); at_builtin; refine Kd.R_append (Kd.int .i64) (w0 := w) w.heap.size rfl (.tmp 58) (.tmp 60) 31 3 (.int .i64 0) 8 rfl Try.underlying31 info3 rfl (by decide) (by omega) v58 path x [.int .i64 x] (fun _ => True) (fun _ => False) rfl rfl ?aP (fun _ hk => hk.elim) ?aF ?aO ?aB ?aS ?aL ?_; (case aP => exact rfl); (case aB => exact (by repeat (first | (with_reducible first | exact HB2.out | apply below_alloc | apply pw_below_drewN | apply below_drew1) | exact HB2.out))); (case aF => exact (fun _ _ => trivial)); (case aO => exact (by (with_reducible repeat (first | apply Kd.R_alloc | apply Kd.R_drewN | apply Kd.R_drew)); exact HO2.out)); (case aS => exact (below_size (by repeat (first | (with_reducible first | exact HB2.out | apply below_alloc | apply pw_below_drewN | apply below_drew1) | exact HB2.out)))); (case aL => omega); intro v61 w61 ho hb hg hat; rw [← hP1.out] at ho; obtain ⟨Ao, co, eo⟩ := Kd.R_slice ho; subst eo; have HB3 := Aside0.mk hb; have HO3 := Aside0.mk ho; clear ho hb hg hat)
                | (go_at_call 72; refine (HIH.out P1 _ _ _ (Kd.C_below HTW.out HB3.out) (Kd.R_reads' HO3.out).2.2 (Kd.R_reads' HO3.out).2.1 (by have := HL.out; rw [hP1.out]; simp; omega) (by rw [hP1.out]; simp) (by rw [hP1.out]; exact hins.out)).mono ?_; rw [← HR.out]; rintro e w72 ⟨hb, hcase⟩; have HB4 := Aside0.mk (below_step HB3.out hb); obtain rfl := hcase.elim (fun h => h.2) (fun h => absurd rfl h.1); have hn0 : (none : Option Addr).isNone = true := rfl; clear hcase hb))
              go_wp2
              go_roundw
              case rel => exact ⟨x + 1, by first | rfl | go_num, ⟨by omega⟩, ⟨by rw [hE.out, hup.out, firstOf_no _ _ _ hre.out.symm]⟩, ⟨by repeat (first | (with_reducible first | exact HB4.out | apply below_alloc | apply pw_below_drewN | apply below_drew1) | exact HB4.out)⟩⟩
              case measure => simp [intOf]; omega
            | cons y ys =>
              go_wp2_with (first
                | (go_at_call 76; refine (in_any _ _ _ _ _ (by first | exact HRP.out | exact Kd.C_drewN HRP.out _) HCP.out hpl).mono ?_; rw [hcn'.out]; rintro e w' ⟨rfl, ⟨m2, rfl⟩⟩)
                | ((with_reducible refine gate_dst (N := 56) rfl ?_); refine Kd.R_lit (Kd.int .i64) _ 3 ?hg (N := 56) ?hd (xs := ([] : List Int)) (inner := []) (ok := fun _ => True) (okp := fun _ => True) ?hr ?hp (fun _ hk => hk) trivial (Below.refl _ _) (Nat.le_refl _) (by simp) ?_; (case hd => rfl); (case hg => rfl); (case hr => first | (go_simp; done) | (go_simp; rfl)); (case hp => exact (Reps.none _ _)); intro v56 w56 ho9 hb hg_ hnew_; clear hg_ hnew_; have HB1 := Aside0.mk (below_step (by repeat (first | (with_reducible first | exact HB.out | apply below_alloc | apply pw_below_drewN | apply below_drew1) | exact HB.out)) hb); have HO1 := Aside0.mk (Kd.R_lower ho9 (below_size (by repeat (first | (with_reducible first | exact HB.out | apply below_alloc | apply pw_below_drewN | apply below_drew1) | exact HB.out)))); clear hb ho9)
                | ((with_reducible refine gate_builtin (b := .append) (xs := #[.tmp 56, .tmp 57]) rfl ?_); at_builtin; refine Kd.R_append_rows (Kd.int .i64) (w0 := w) w.heap.size rfl (.tmp 56) (.tmp 57) 31 3 (.int .i64 0) 8 rfl Try.underlying31 info3 rfl (by decide) (by omega) v56 [] path _ _ _ (fun _ => True) (fun _ => False) rfl rfl ?aO ?aR (fun _ _ h => h) (fun _ h => h.elim) ?aF ?aB ?aS ?aL ?_; (case aR => exact (Kd.C_below HPW.out (by repeat (first | (with_reducible first | exact HB1.out | apply below_alloc | apply pw_below_drewN | apply below_drew1) | exact HB1.out)))); (case aB => exact (by repeat (first | (with_reducible first | exact HB1.out | apply below_alloc | apply pw_below_drewN | apply below_drew1) | exact HB1.out))); (case aF => exact (fun _ _ => trivial)); (case aO => exact (by (with_reducible repeat (first | apply Kd.R_alloc | apply Kd.R_drewN | apply Kd.R_drew)); exact HO1.out)); (case aS => exact (below_size (by repeat (first | (with_reducible first | exact HB1.out | apply below_alloc | apply pw_below_drewN | apply below_drew1) | exact HB1.out)))); (case aL => simp; omega); intro v58 w58 ho hb hg hat; rw [List.nil_append] at ho; have HB2 := Aside0.mk hb; have HO2 := Aside0.mk ho; clear ho hb hg hat)
                | ((with_reducible refine gate_builtin (b := .append) (xs := #[.tmp 58, .tmp 60]) rfl ?_); at_builtin; refine Kd.R_append (Kd.int .i64) (w0 := w) w.heap.size rfl (.tmp 58) (.tmp 60) 31 3 (.int .i64 0) 8 rfl Try.underlying31 info3 rfl (by decide) (by omega) v58 path x [.int .i64 x] (fun _ => True) (fun _ => False) rfl rfl ?aP (fun _ hk => hk.elim) ?aF ?aO ?aB ?aS ?aL ?_; (case aP => exact rfl); (case aB => exact (by repeat (first | (with_reducible first | exact HB2.out | apply below_alloc | apply pw_below_drewN | apply below_drew1) | exact HB2.out))); (case aF => exact (fun _ _ => trivial)); (case aO => exact (by (with_reducible repeat (first | apply Kd.R_alloc | apply Kd.R_drewN | apply Kd.R_drew)); exact HO2.out)); (case aS => exact (below_size (by repeat (first | (with_reducible first | exact HB2.out | apply below_alloc | apply pw_below_drewN | apply below_drew1) | exact HB2.out)))); (case aL => omega); intro v61 w61 ho hb hg hat; rw [← hP1.out] at ho; obtain ⟨Ao, co, eo⟩ := Kd.R_slice ho; subst eo; have HB3 := Aside0.mk hb; have HO3 := Aside0.mk ho; clear ho hb hg hat)
                | (go_at_call 72; refine (HIH.out P1 _ _ _ (Kd.C_below HTW.out HB3.out) (Kd.R_reads' HO3.out).2.2 (Kd.R_reads' HO3.out).2.1 (by have := HL.out; rw [hP1.out]; simp; omega) (by rw [hP1.out]; simp) (by rw [hP1.out]; exact hins.out)).mono ?_; rw [← HR.out]; rintro e w72 ⟨hb, hcase⟩; have HB4 := Aside0.mk (below_step HB3.out hb); obtain ⟨ad9, c9, rfl, hC9, hle9, hor9⟩ := hcase.elim (fun h => absurd h.1 (by simp)) (fun h => h.2); have H9 := Aside0.mk (And.intro hC9 (And.intro hle9 hor9)); have hn0 : (some ad9).isNone = false := rfl; clear hC9 hle9 hor9 hcase hb))
              go_wp2
              go_ret
              have hfin : ext t len (f + 1) path = y :: ys := by rw [hE.out, hup.out, firstOf_yes _ _ _ _ _ hre.out.symm]
              refine ⟨by repeat (first | (with_reducible first | exact HB4.out | apply below_alloc | apply pw_below_drewN | apply below_drew1) | exact HB4.out), Or.inr ⟨by rw [hfin]; simp, ad9, c9, by rw [hfin]; rfl, by rw [hfin]; first | exact H9.out.1 | exact Kd.C_drewN H9.out.1 _ | exact Kd.C_drew H9.out.1, by rw [hfin]; exact H9.out.2.1, Or.inr ?_⟩⟩
              rcases H9.out.2.2 with e | e
              · obtain ⟨go, cg, eg, gb, _, _, _⟩ := Kd.R_form HO3.out (by rw [hP1.out]; simp)
                injection eg with e1 _ _
                rw [e1] at e
                injection e with e
                rw [e]
                exact gb
              · exact Nat.le_trans HB3.out.size e
        · have hzb : decide (0 < rd (rd_L1 t lst) x) = false := decide_eq_false hz
          have hno : Aside0 (step t len f path lst x = []) := ⟨by rw [step, if_pos (.inl (by omega))]⟩
          clear hz hge
          go_wp2
          go_roundw
          case rel => exact ⟨x + 1, by first | rfl | go_num, ⟨by omega⟩, ⟨by rw [hE.out, hup.out, firstOf_no _ _ _ hno.out]⟩, ⟨by repeat (first | (with_reducible first | exact HB.out | apply below_alloc | apply pw_below_drewN | apply below_drew1) | exact HB.out)⟩⟩
          case measure => simp [intOf]; omega
      · have hlb : decide (x < (t.length : Int)) = false := decide_eq_false hlt
        have hnil : Aside0 (ext t len (f + 1) path = []) := ⟨by rw [hE.out, upTo_end _ _ (by omega)]; rfl⟩
        clear hi1
        go_wp2
        go_ret
        exact ⟨by repeat (first | (with_reducible first | exact HB.out | apply below_alloc | apply pw_below_drewN | apply below_drew1) | exact HB.out), Or.inl ⟨hnil.out, rfl⟩⟩

/-- The reference's first cycle: of the least length that has one. -/
def refCycle (t : List (List Int)) : Nat → Nat → List Int
  | 0, _ => []
  | m + 1, len => if cycleOf t len = [] then refCycle t m (len + 1) else cycleOf t len

set_option maxHeartbeats 2000000 in
set_option maxRecDepth 100000 in
theorem Cycle_any (A : Option Addr) (c : Nat) (t : List (List Int)) (w : World) (ht : Kd.C KT w A t.length t) (hg : Good t.length t) (hn100 : t.length ≤ 100) :
    Calls Try.prog 55 #[.slice A t.length c] w (Aft w none (refCycle t (t.length - 1) 2)) := by
  have HTW := Aside0.mk ht
  have HG := Aside0.mk hg
  clear ht hg
  go_enter Try.func55, Try.ntmps55
  go_wp2
  have qT : ∀ (w : World) (a : Option Addr) (n c n' c' : Nat), (binOp .neq 31 (.slice a n c) (.slice none n' c')).run Try.prog w = .ok (.bool (!a.isNone)) w := fun w a n c n' c' => run_neq_slice_nil_any w _ _ a n c n' c' Try.underlying31
  go_loopw [3] (fun l wr => ∃ (len : Nat), l = .int .i64 (len : Int) ∧ Aside0 (2 ≤ len ∧ len ≤ t.length + 2) ∧ Aside0 (refCycle t (t.length - 1) 2 = refCycle t (t.length + 1 - len) len) ∧ Aside0 (Below w.heap.size w wr)) (fun l _ => t.length + 2 - (intOf l).toNat)
  case atStart => exact ⟨2, rfl, ⟨by omega⟩, ⟨by rw [show t.length + 1 - 2 = t.length - 1 from by omega]⟩, ⟨by first | exact Below.refl _ _ | exact pw_below_drewN (Below.refl _ _) _⟩⟩
  case round =>
    obtain ⟨len, rfl, hlen, hE0, HB⟩ := hrel
    have hl2 := hlen.out.1
    have hl14 := hlen.out.2
    by_cases hle : len ≤ t.length
    · have hleb : decide ((len : Int) ≤ (t.length : Int)) = true := decide_eq_true (by omega)
      have hE1 : Aside0 (refCycle t (t.length - 1) 2 = if cycleOf t len = [] then refCycle t (t.length - len) (len + 1) else cycleOf t len) := ⟨by rw [hE0.out, show t.length + 1 - len = (t.length - len) + 1 from by omega, refCycle]⟩
      go_wp2
      go_loopw [4] (fun d wi => ∃ (k : Nat), d = .int .i64 k ∧ Aside0 (k ≤ t.length) ∧ Aside0 (cycleOf t len = firstOf (fun d => ext t len (len - 1) [d]) (upTo k t.length)) ∧ Aside0 (Below w.heap.size w wi)) (fun d _ => t.length - (intOf d).toNat)
      case atStart => exact ⟨0, rfl, ⟨by omega⟩, ⟨rfl⟩, ⟨by repeat (first | (with_reducible first | exact HB.out | apply below_alloc | apply pw_below_drewN | apply below_drew1) | exact HB.out)⟩⟩
      case round =>
        clear HB
        obtain ⟨k, rfl, hk, hE, HB⟩ := hrel
        by_cases hlt : k < t.length
        · have hltb : decide ((k : Int) < (t.length : Int)) = true := decide_eq_true (by omega)
          have hup := Aside0.mk (upTo_cons (k : Int) t.length (by omega) (by omega))
          obtain ⟨r, hr⟩ : ∃ r, r = ext t len (len - 1) [(k : Int)] := ⟨_, rfl⟩
          have HR := Aside0.mk hr
          have hins : Aside0 (Ins t [(k : Int)]) := ⟨by
            intro i i0 i1
            obtain rfl : i = 0 := by simp at i1; omega
            show 0 ≤ (k : Int) ∧ (k : Int) < t.length
            omega⟩
          clear hr
          cases r with
          | nil =>
            go_wp2_with (first
            | ((with_reducible refine gate_dst (N := 20) rfl ?_); refine Kd.R_lit (Kd.int .i64) _ 3 ?hg (N := 20) ?hd (xs := [(k : Int)]) (inner := [.int .i64 (k : Int)]) (ok := fun _ => True) (okp := fun _ => False) ?hr ?hp (fun _ hk => hk.elim) trivial (Below.refl _ _) (Nat.le_refl _) (by simp) ?_; (case hd => rfl); (case hg => rfl); (case hr => first | (go_simp; done) | (go_simp; rfl)); (case hp => exact (Reps.one (show Kd.M (Kd.int .i64) _ _ _ (k : Int) [.int .i64 (k : Int)] from rfl) (Reps.none _ _))); intro v20 w20 ho9 hb hg_ hnew_; clear hg_ hnew_; have HB1 := Aside0.mk (below_step (by repeat (first | (with_reducible first | exact HB.out | apply below_alloc | apply pw_below_drewN | apply below_drew1) | exact HB.out)) hb); have HO1 := Aside0.mk (Kd.R_lower ho9 (below_size (by repeat (first | (with_reducible first | exact HB.out | apply below_alloc | apply pw_below_drewN | apply below_drew1) | exact HB.out)))); clear hb ho9; obtain ⟨Ao, co, eo⟩ := Kd.R_slice HO1.out; subst eo)
            | (go_at_call 72; refine (ex_any A c t HG.out (by omega) len (by omega) (len - 1) [(k : Int)] _ _ _ (Kd.C_below HTW.out HB1.out) (Kd.R_reads' HO1.out).2.2 (Kd.R_reads' HO1.out).2.1 (by simp; omega) (by simp) hins.out).mono ?_; rw [← HR.out]; rintro e w72 ⟨hb, hcase⟩; have HB4 := Aside0.mk (below_step HB1.out hb); obtain rfl := hcase.elim (fun h => h.2) (fun h => absurd rfl h.1); have hn0 : (none : Option Addr).isNone = true := rfl; clear hcase hb))
            go_wp2
            go_roundw
            case rel => exact ⟨k + 1, by go_num, ⟨by omega⟩, ⟨by rw [hE.out, hup.out, firstOf_no _ _ _ HR.out.symm]; rfl⟩, ⟨by repeat (first | (with_reducible first | exact HB4.out | apply below_alloc | apply pw_below_drewN | apply below_drew1) | exact HB4.out)⟩⟩
            case measure => simp [intOf]; omega
          | cons y ys =>
            have hfin : Aside0 (refCycle t (t.length - 1) 2 = y :: ys) := ⟨by
              have h1 : cycleOf t len = y :: ys := by rw [hE.out, hup.out, firstOf_yes _ _ _ _ _ HR.out.symm]
              rw [hE1.out, h1, if_neg (by simp)]⟩
            go_wp2_with (first
            | ((with_reducible refine gate_dst (N := 20) rfl ?_); refine Kd.R_lit (Kd.int .i64) _ 3 ?hg (N := 20) ?hd (xs := [(k : Int)]) (inner := [.int .i64 (k : Int)]) (ok := fun _ => True) (okp := fun _ => False) ?hr ?hp (fun _ hk => hk.elim) trivial (Below.refl _ _) (Nat.le_refl _) (by simp) ?_; (case hd => rfl); (case hg => rfl); (case hr => first | (go_simp; done) | (go_simp; rfl)); (case hp => exact (Reps.one (show Kd.M (Kd.int .i64) _ _ _ (k : Int) [.int .i64 (k : Int)] from rfl) (Reps.none _ _))); intro v20 w20 ho9 hb hg_ hnew_; clear hg_ hnew_; have HB1 := Aside0.mk (below_step (by repeat (first | (with_reducible first | exact HB.out | apply below_alloc | apply pw_below_drewN | apply below_drew1) | exact HB.out)) hb); have HO1 := Aside0.mk (Kd.R_lower ho9 (below_size (by repeat (first | (with_reducible first | exact HB.out | apply below_alloc | apply pw_below_drewN | apply below_drew1) | exact HB.out)))); clear hb ho9; obtain ⟨Ao, co, eo⟩ := Kd.R_slice HO1.out; subst eo)
            | (go_at_call 72; refine (ex_any A c t HG.out (by omega) len (by omega) (len - 1) [(k : Int)] _ _ _ (Kd.C_below HTW.out HB1.out) (Kd.R_reads' HO1.out).2.2 (Kd.R_reads' HO1.out).2.1 (by simp; omega) (by simp) hins.out).mono ?_; rw [← HR.out]; rintro e w72 ⟨hb, hcase⟩; have HB4 := Aside0.mk (below_step HB1.out hb); obtain ⟨ad9, c9, rfl, hC9, hle9, hor9⟩ := hcase.elim (fun h => absurd h.1 (by simp)) (fun h => h.2); have H9 := Aside0.mk (And.intro hC9 (And.intro hle9 hor9)); have hn0 : (some ad9).isNone = false := rfl; clear hC9 hle9 hor9 hcase hb))
            go_wp2
            go_ret
            refine ⟨by repeat (first | (with_reducible first | exact HB4.out | apply below_alloc | apply pw_below_drewN | apply below_drew1) | exact HB4.out), Or.inr ⟨by rw [hfin.out]; simp, ad9, c9, by rw [hfin.out]; rfl, by rw [hfin.out]; first | exact H9.out.1 | exact Kd.C_drewN H9.out.1 _ | exact Kd.C_drew H9.out.1, by rw [hfin.out]; exact H9.out.2.1, Or.inr ?_⟩⟩
            rcases H9.out.2.2 with e | e
            · obtain ⟨go, cg, eg, gb, _, _, _⟩ := Kd.R_form HO1.out (by simp)
              injection eg with e1 _ _
              rw [e1] at e
              injection e with e
              rw [e]
              exact gb
            · exact Nat.le_trans HB1.out.size e
        · have hltb : decide ((k : Int) < (t.length : Int)) = false := decide_eq_false (by omega)
          have hnil : Aside0 (cycleOf t len = []) := ⟨by rw [hE.out, upTo_end _ _ (by omega)]; rfl⟩
          go_wp2
          go_roundw
          case rel => exact ⟨len + 1, by go_num, ⟨by omega⟩, ⟨by rw [hE1.out, if_pos hnil.out]; congr 1; omega⟩, ⟨by repeat (first | (with_reducible first | exact HB.out | apply below_alloc | apply pw_below_drewN | apply below_drew1) | exact HB.out)⟩⟩
          case measure => simp [intOf]; omega
    · have hleb : decide ((len : Int) ≤ (t.length : Int)) = false := decide_eq_false (by omega)
      have hfin : Aside0 (refCycle t (t.length - 1) 2 = []) := ⟨by rw [hE0.out, show t.length + 1 - len = 0 from by omega]; rfl⟩
      go_wp2
      go_ret
      exact ⟨by repeat (first | (with_reducible first | exact HB.out | apply below_alloc | apply pw_below_drewN | apply below_drew1) | exact HB.out), Or.inl ⟨hfin.out, rfl⟩⟩

theorem add_blk (x : Addr) (m : Nat) : (x.add m).block = x.block := by
  unfold Addr.add
  by_cases h : m = 0
  · rw [if_pos h]
  · rw [if_neg h]
theorem C_far {w : World} {ad : Addr} {n : Nat} {l : List Int} {g : Nat} (h : Kd.C (Kd.int .i64) w (some ad) n l) (hg : ad.block ≠ g) (i : Nat) (v : Value) : Kd.C (Kd.int .i64) (w.setCell ⟨g, i, none⟩ v) (some ad) n l := by
  obtain ⟨h1, h2, h3⟩ := h
  refine ⟨h1, h2, fun hn => ?_⟩
  obtain ⟨ad', e, h4⟩ := h3 hn
  cases e
  refine ⟨_, rfl, fun j p hj => ?_⟩
  obtain ⟨cs, k1, k2, k3⟩ := h4 j p hj
  refine ⟨cs, k1, k2, fun i' u hu => ?_⟩
  rw [World.cell?_setCell_other (h := fun e => hg (by have h1 := congrArg Addr.block e; rw [add_blk] at h1; exact h1.symm))]
  exact k3 i' u hu

/-- The reference's cancelling. -/
def refC : Nat → List (List Int) → List (List Int)
  | 0, t => t
  | f + 1, t => if refCycle t (t.length - 1) 2 = [] then t else refC f (cancelOnce t (refCycle t (t.length - 1) 2))
theorem refCycle_at (t : List (List Int)) : ∀ (m len : Nat), refCycle t m len ≠ [] → ∃ L, len ≤ L ∧ L < len + m ∧ refCycle t m len = cycleOf t L ∧ cycleOf t L ≠ [] ∧ ∀ l, len ≤ l → l < L → cycleOf t l = [] := by
  intro m
  induction m with
  | zero => intro len h; exact absurd rfl h
  | succ m ih =>
    intro len h
    rw [refCycle] at h ⊢
    by_cases c : cycleOf t len = []
    · rw [if_pos c] at h ⊢
      obtain ⟨L, h1, h2, h3, h4, h5⟩ := ih (len + 1) h
      refine ⟨L, by omega, by omega, h3, h4, fun l l1 l2 => ?_⟩
      by_cases e : l = len
      · rw [e]; exact c
      · exact h5 l (by omega) l2
    · rw [if_neg c]
      exact ⟨len, Nat.le_refl _, by omega, rfl, c, fun l l1 l2 => by omega⟩
theorem refCycle_none (t : List (List Int)) : ∀ (m len : Nat), (∀ l, len ≤ l → l < len + m → cycleOf t l = []) → refCycle t m len = [] := by
  intro m
  induction m with
  | zero => intro len h; rfl
  | succ m ih =>
    intro len h
    rw [refCycle, if_pos (h len (Nat.le_refl _) (by omega))]
    exact ih (len + 1) (fun l l1 l2 => h l (by omega) (by omega))
theorem ref_cyc {n : Nat} {t : List (List Int)} (hg : Good n t) (h : refCycle t (t.length - 1) 2 ≠ []) : Cyc n t (refCycle t (t.length - 1) 2) ∧ (refCycle t (t.length - 1) 2).length ≤ n := by
  obtain ⟨L, h1, h2, h3, h4, _⟩ := refCycle_at t _ _ h
  obtain ⟨c1, c2⟩ := cycle_cyc hg L (by omega) h4
  rw [h3]
  have := hg.1.1
  exact ⟨c1, by omega⟩
theorem ref_cycle_own (n : Nat) (A : Option Addr) (c : Nat) (T : List (List Int)) (W : World) (base : Nat) (ok : Nat → Prop) (hs : Kd.S KT 31 W base ok (.slice A n c) T) (hq : Good n T) (hn : n ≤ 12) :
    Calls Try.prog 55 #[.slice A n c] W (Aft W none (refCycle T (T.length - 1) 2)) := by
  obtain ⟨rfl, _, hC⟩ := Kd.S_reads' hs
  exact Cycle_any A c T W hC hq (by omega)

set_option maxHeartbeats 4000000 in
set_option maxRecDepth 100000 in
theorem refCancel_any (A : Option Addr) (c : Nat) (t : List (List Int)) (w : World) (hr : Kd.C KT w A t.length t) (hG0 : Good t.length t) (hn12 : t.length ≤ 12) (hc : t.length ≤ c) :
    Calls Try.prog 28 #[.slice A t.length c] w fun e w' => ∃ v : Value, e = .returned v ∧ Kd.S KT 31 w' w.heap.size (fun _ => True) v (refC (phi t + 1) t) ∧ Below w.heap.size w w' := by
  have HR := Aside0.mk hr
  have HG := Aside0.mk hG0
  obtain ⟨kc, hkc⟩ := P.clone_f t (by omega) (fun i hi => by have := hG0.1.2 i (by omega) (by omega); omega)
  have HKC := Aside0.mk hkc
  have hcl := Aside0.mk hc
  clear hr hG0 hkc hc
  go_enter Try.func28, Try.ntmps28
  go_wp2_with (go_at_call 32; refine (kinkeepref35_Clone.calls kc A c t t _ HR.out hcl.out HKC.out).mono ?_; rintro e w2 ⟨v2, rfl, hS, hb⟩; obtain ⟨A6, c6, e6⟩ := Kd.S_slice hS; subst e6; have HS := Aside0.mk (show Kd.S KT 31 w2 w.heap.size (fun _ => True) (.slice A6 t.length c6) t from hS); have HB := Aside0.mk hb; clear hS hb)
  have qT : ∀ (w : World) (a : Option Addr) (n c n' c' : Nat), (binOp .eql 31 (.slice a n c) (.slice none n' c')).run Try.prog w = .ok (.bool a.isNone) w := fun w a n c n' c' => Go.Lib.run_eql_slice_nil w _ _ a n c n' c' Try.underlying31
  go_loopg [6] (phi t + 1) (fun kq v6 wr => ∃ T : List (List Int), Aside0 (refC (phi t + 1) t = refC kq T) ∧ Aside0 (phi T < kq) ∧ Aside0 (Good t.length T) ∧ Aside0 (Kd.S KT 31 wr w.heap.size (fun _ => True) (.slice A6 t.length c6) T) ∧ Aside0 (Below w.heap.size w wr))
  case atStart => exact ⟨t, ⟨rfl⟩, ⟨by omega⟩, HG, HS, HB⟩
  case round =>
    clear HS HB
    obtain ⟨T, hE, hph, hG, HO, HB⟩ := hrel
    cases gk with
    | zero => exact absurd hph.out (by omega)
    | succ k1 =>
      obtain ⟨C, hC⟩ : ∃ C, C = refCycle T (T.length - 1) 2 := ⟨_, rfl⟩
      have HCY := Aside0.mk (ref_cycle_own t.length A6 c6 T wr w.heap.size (fun _ => True) HO.out hG.out hn12)
      rw [← hC] at HCY
      have hE2 : Aside0 (refC (phi t + 1) t = if C = [] then T else refC k1 (cancelOnce T C)) := ⟨by rw [hE.out, refC, hC]⟩
      by_cases hz : C = []
      · subst hz
        clear hC
        go_wp2_with (go_at_call 55; refine HCY.out.mono ?_; rintro e w72 ⟨hb, hcase⟩; have HB4 := Aside0.mk (below_step HB.out hb); have HO4 := Aside0.mk (Kd.S_mono (Kd.S_below (Kd.S_mono (Kd.S_bound HO.out) (ok' := fun k => k < wr.heap.size) (fun k hk => hk.2.2.1)) hb) (ok' := fun k => k < wr.heap.size) (fun k hk => hk)); obtain rfl := hcase.elim (fun h => h.2) (fun h => absurd rfl h.1); have hn0 : (none : Option Addr).isNone = true := rfl; clear hcase hb)
        go_wp2
        go_ret
        refine ⟨_, rfl, ?_, HB4.out⟩
        have e : refC (phi t + 1) t = T := by rw [hE2.out]; exact if_pos trivial
        rw [e]
        exact Kd.S_mono HO4.out (fun _ _ => trivial)
      · have hcyc : Cyc t.length T C ∧ C.length ≤ t.length := by rw [hC] at hz ⊢; exact ref_cyc hG.out hz
        have hE3 : Aside0 (refC (phi t + 1) t = refC k1 (cancelOnce T C)) := ⟨by rw [hE2.out, if_neg hz]⟩
        have hCY := Aside0.mk hcyc.1
        have hCL := hcyc.2
        have hCp := hcyc.1.pos
        have HZ := Aside0.mk hz
        clear hC hz hE2 hcyc
        go_wp2_with (go_at_call 55; refine HCY.out.mono ?_; rintro e w72 ⟨hb, hcase⟩; have HB4 := Aside0.mk (below_step HB.out hb); have HO4 := Aside0.mk (Kd.S_mono (Kd.S_below (Kd.S_mono (Kd.S_bound HO.out) (ok' := fun k => k < wr.heap.size) (fun k hk => hk.2.2.1)) hb) (ok' := fun k => k < wr.heap.size) (fun k hk => hk)); obtain ⟨ad9, c9, rfl, hC9, hle9, hor9⟩ := hcase.elim (fun h => absurd h.1 HZ.out) (fun h => h.2); have hn0 : (some ad9).isNone = false := rfl; have HC9 := Aside0.mk hC9; have hbk : Aside0 (wr.heap.size ≤ ad9.block) := ⟨hor9.elim (fun h => by cases h) (fun h => h)⟩; clear hcase hb hC9 hle9 hor9)
        obtain ⟨hB, hhB⟩ : ∃ b, b = wr.heap.size := ⟨_, rfl⟩
        rw [← hhB] at HO4 hbk
        obtain ⟨n, hn⟩ : ∃ n, n = C.length := ⟨_, rfl⟩
        have HCN := Aside0.mk hn.symm
        rw [← hn] at hCL hCp HC9 ⊢
        clear hhB hn
        go_wp2
        obtain ⟨wb, rfl⟩ : ∃ wo : World, wo = w72 := ⟨_, rfl⟩
        have hln0 : ((n : Int) == 0) = false := beq_eq_false_iff_ne.2 (by omega)
        have hln1 : ¬ ((n : Int) = 0) := by omega
        go_loopw [5, 6] (fun v5 i wi => ∃ k : Nat, i = .int .i64 k ∧ Aside0 (k ≤ n) ∧ v5 = .int .i64 (leastTo T C k) ∧ Drawn0 wb wi) (fun _ i _ => n - (intOf i).toNat)
        case atStart => exact ⟨0, rfl, ⟨by omega⟩, rfl, Drawn0.refl _⟩
        case round =>
          obtain ⟨k, rfl, hk, rfl, ⟨m3, rfl⟩⟩ := hrel
          have hkl := hk.out
          by_cases hlt : k < n
          · have hlb : decide ((k : Int) < (n : Int)) = true := decide_eq_true (by omega)
            have hin := hCY.out.ins k (by rw [HCN.out]; exact hlt)
            have hnx := nxt_in hCY.out k
            obtain ⟨adc, e, hx1⟩ := Kd.at_int HC9.out k (by omega) (by omega)
            cases e
            have hmm : (k + 1) % n < n := Nat.mod_lt _ (by omega)
            obtain ⟨adc', e, hx2⟩ := Kd.at_int HC9.out (((k + 1) % n : Nat) : Int) (by omega) (by omega)
            cases e
            rw [Int.toNat_natCast] at hx1 hx2
            have hnd : rd C (((k + 1) % n : Nat) : Int) = nxt C k := by unfold nxt; rw [HCN.out]
            rw [hnd] at hx2
            obtain ⟨a, ha⟩ : ∃ a, a = rd C k := ⟨_, rfl⟩
            obtain ⟨b, hb⟩ : ∃ b, b = nxt C k := ⟨_, rfl⟩
            have hls : Aside0 (leastTo T C (k + 1) = min (leastTo T C k) (get T a b)) := ⟨by rw [leastTo, ha, hb]⟩
            rw [← ha] at hx1 hin
            rw [← hb] at hx2 hnx
            obtain ⟨a0, a1⟩ := hin
            obtain ⟨b0, b1⟩ := hnx
            have hbl : b < ((rd_L1 T a).length : Int) := by rw [hG.out.1.2 a a0 a1]; exact b1
            have hA6 : ∃ x, A6 = some x := by
              obtain ⟨A', c', e, hle, hC⟩ := Kd.S_reads HO4.out
              injection e with e1 e2 e3
              obtain ⟨ad', _, _, e9, _⟩ := at_L1 hC a a0 (by rw [hG.out.1.1]; exact a1)
              exact ⟨ad', by rw [e1, e9]⟩
            obtain ⟨A6, rfl⟩ := hA6
            obtain ⟨g, d, s0, s1, _, _, _, _⟩ := tab_at HO4.out a b a0 (by rw [hG.out.1.1]; exact a1) b0 hbl
            have hk1 : IntKind.i64.wrap ((k : Int) + 1) = (k : Int) + 1 := IntWalk.i64_in _ (by omega)
            have hk2 : ((k : Int) + 1).tmod (n : Int) = (((k + 1) % n : Nat) : Int) := by rw [Int.tmod_eq_emod_of_nonneg (by omega)]; norm_cast
            have hk3 : IntKind.i64.wrap ((((k + 1) % n : Nat) : Int)) = (((k + 1) % n : Nat) : Int) := IntWalk.i64_in _ (by omega)
            obtain ⟨q, hq⟩ : ∃ q, q = (k + 1) % n := ⟨_, rfl⟩
            rw [← hq] at hx2 hk2 hk3 hmm
            have hmI : (q : Int) < (n : Int) := by omega
            clear hq ha hb hnd
            go_wp2
            go_quiet (fail)
            rw [show (if rd (rd_L1 T a) b < leastTo T C k then rd (rd_L1 T a) b else leastTo T C k) = leastTo T C (k + 1) from by rw [hls.out]; unfold get; split <;> omega]
            clear hk1 hk2 hk3
            go_wp2
            go_roundw
            case rel => exact ⟨k + 1, by go_num, ⟨by omega⟩, rfl, by repeat (first | exact Drawn0.refl _ | apply Drawn0.step)⟩
            case measure => simp [intOf]; omega
          · have hlb : decide ((k : Int) < (n : Int)) = false := decide_eq_false (by omega)
            obtain rfl : k = n := by omega
            obtain ⟨L, hL⟩ : ∃ L, L = leastTo T C k := ⟨_, rfl⟩
            have hsub : Aside0 (cancelOnce T C = subTo T C L k) := ⟨by rw [cancelOnce, HCN.out, hL]⟩
            have hLp := least_pos hCY.out k (by rw [HCN.out]; omega)
            have hLe := Aside0.mk (fun i (hi : i < k) => least_le T C k i hi)
            rw [← hL] at hLp hLe ⊢
            obtain ⟨hLp0, hLp1⟩ := hLp
            clear hL
            go_wp2
            go_loopw [7] (fun i wi => ∃ j : Nat, i = .int .i64 j ∧ Aside0 (j ≤ k) ∧ Aside0 (Kd.S KT 31 wi w.heap.size (fun k => k < hB) (.slice A6 t.length c6) (subTo T C L j)) ∧ Aside0 (Kd.C (Kd.int .i64) wi (some ad9) k C) ∧ Aside0 (Below w.heap.size w wi)) (fun i _ => k - (intOf i).toNat)
            case atStart => exact ⟨0, rfl, ⟨by omega⟩, ⟨Kd.S_drewN HO4.out _⟩, ⟨Kd.C_drewN HC9.out _⟩, ⟨pw_below_drewN HB4.out _⟩⟩
            case round =>
              clear HO4 HC9 HB4
              obtain ⟨j, rfl, hj, HO', HC', HB'⟩ := hrel
              have hjk := hj.out
              by_cases hlt : j < k
              · have hlb2 : decide ((j : Int) < (k : Int)) = true := decide_eq_true (by omega)
                obtain ⟨we, rfl⟩ : ∃ wo : World, wo = wr := ⟨_, rfl⟩
                have hin := hCY.out.ins j (by rw [HCN.out]; exact hlt)
                have hnx := nxt_in hCY.out j
                have hsg := (sub_get hG.out hCY.out L (by omega) j (by rw [HCN.out]; omega) (fun i hi => hLe.out i (by omega))).1
                have hmm : (j + 1) % k < k := Nat.mod_lt _ (by omega)
                have hnd : rd C (((j + 1) % k : Nat) : Int) = nxt C j := by unfold nxt; rw [HCN.out]
                obtain ⟨a, ha⟩ : ∃ a, a = rd C j := ⟨_, rfl⟩
                obtain ⟨b, hb⟩ : ∃ b, b = nxt C j := ⟨_, rfl⟩
                obtain ⟨T3, hT3⟩ : ∃ T3, T3 = subTo T C L j := ⟨_, rfl⟩
                have hls : Aside0 (subTo T C L (j + 1) = upd T3 a b (wrap64 (get T3 a b - L))) := ⟨by rw [subTo, ha, hb, hT3]⟩
                rw [← hT3] at hsg HO'
                rw [← ha] at hin
                rw [← hb] at hnx hnd
                have HND := Aside0.mk hnd
                have HAA := Aside0.mk ha
                obtain ⟨a0, a1⟩ := hin
                obtain ⟨b0, b1⟩ := hnx
                have hbl : b < ((rd_L1 T3 a).length : Int) := by rw [hsg.2 a a0 a1]; exact b1
                have hA6 : ∃ x, A6 = some x := by
                  obtain ⟨A', c', e, hle, hC⟩ := Kd.S_reads HO'.out
                  injection e with e1 e2 e3
                  obtain ⟨ad', _, _, e9, _⟩ := at_L1 hC a a0 (by rw [hsg.1]; exact a1)
                  exact ⟨ad', by rw [e1, e9]⟩
                obtain ⟨A6, rfl⟩ := hA6
                have HSQ := Aside0.mk hsg
                have hk1 : IntKind.i64.wrap ((j : Int) + 1) = (j : Int) + 1 := IntWalk.i64_in _ (by omega)
                have hk2 : ((j : Int) + 1).tmod (k : Int) = (((j + 1) % k : Nat) : Int) := by rw [Int.tmod_eq_emod_of_nonneg (by omega)]; norm_cast
                have hk3 : IntKind.i64.wrap ((((j + 1) % k : Nat) : Int)) = (((j + 1) % k : Nat) : Int) := IntWalk.i64_in _ (by omega)
                obtain ⟨q, hq⟩ : ∃ q, q = (j + 1) % k := ⟨_, rfl⟩
                rw [← hq] at HND hk2 hk3 hmm
                have hmI : (q : Int) < (k : Int) := by omega
                have hz0 : ((k : Int) == 0) = false := beq_eq_false_iff_ne.2 (by omega)
                have hz1 : ¬ ((k : Int) = 0) := by omega
                have hz2 : ¬ (k = 0) := by omega
                clear hq ha hb hnd hT3 hsg
                go_wp2
                have HO5 := Aside0.mk (Kd.S_drew HO'.out)
                have HC5 := Aside0.mk (Kd.C_drew HC'.out)
                have HB5 := Aside0.mk (below_drew HB'.out)
                refine wp_region_still_tail 20 (by kernel_rfl) (by kernel_rfl) ?_
                change wpStill _ _ we.drew (fun a' => wpList _ _ _ _ a' we.drew) _ _
                generalize we.drew = w5 at HO5 HC5 HB5 ⊢
                obtain ⟨adc0, e, hx0⟩ := Kd.at_int HC5.out j (by omega) (by omega)
                cases e
                rw [Int.toNat_natCast, ← HAA.out] at hx0
                obtain ⟨adc2, e, hx2⟩ := Kd.at_int HC5.out (q : Int) (by omega) (by omega)
                cases e
                rw [Int.toNat_natCast, HND.out] at hx2
                obtain ⟨g, d, s0, s1, s2, s3, ⟨hgB, gc, s4⟩, s5⟩ := tab_at HO5.out a b a0 (by rw [HSQ.out.1]; exact a1) b0 hbl
                have S5 := Aside0.mk s5
                have hgB' := Aside0.mk hgB
                clear s5 s4 hgB
                simp only [List.take_succ_cons, List.take_zero, List.drop_succ_cons, List.drop_zero]
                repeat still_step
                refine wpStill_nil ?_
                clear hk1 hk2 hk3
                go_wp2
                go_roundw
                case rel => exact ⟨j + 1, by go_num, ⟨by omega⟩, ⟨by rw [hls.out]; exact (S5.out _).1⟩, ⟨C_far HC5.out (by have h1 := hgB'.out; have h2 : g < hB := h1; have h3 := hbk.out; omega) _ _⟩, ⟨HB5.out.setCell s3 _⟩⟩
                case measure => simp [intOf]; omega
              · have hlb2 : decide ((j : Int) < (k : Int)) = false := decide_eq_false (by omega)
                obtain rfl : j = k := by omega
                rw [← hsub.out] at HO'
                have hcg := cancel_good hG.out hCY.out
                have HG2 := Aside0.mk hcg.1
                have hph2 := hcg.2
                obtain ⟨T2, hT2⟩ : ∃ T2, T2 = cancelOnce T C := ⟨_, rfl⟩
                rw [← hT2] at HO' HG2 hE3 hph2
                have HPH := Aside0.mk hph2
                clear hT2 hcg hph2
                go_wp2
                go_roundg k1
                case measure => omega
                case rel => exact ⟨T2, hE3, ⟨by have := HPH.out; have := hph.out; omega⟩, HG2, ⟨Kd.S_mono HO'.out (fun _ _ => trivial)⟩, HB'⟩
end Go.Proofs.Ytdljbmgknhbceaa.A
