/- Nets: the reference's small functions. -/
import Derived.Test.YtonmmfjagkgifaaNet4
set_option linter.unusedVariables false
set_option linter.unusedSimpArgs false
namespace Go.Proofs.Ytonmmfjagkgifaa
open Go.RowKit
attribute [local go_sem] aw_mv aw_mkf aw_pick aw_bin aw_eqB aw_eqNil aw_eqAgg aw_un aw_conv aw_fa aw_ia aw_iaArr aw_ixArr aw_ixStr aw_fld aw_ext aw_bld aw_nilc aw_slc aw_slcArr aw_slcStr aw_len aw_cap aw_mnx aw_ld aw_st aw_guard_y aw_guard_n aw_nil aw_exit aw_ret aw_cond_t aw_cond_f aw_blk seqQ_norm seqQ_exit seqQ_ret blkQ_norm blkQ_exit_same blkQ_exit_ne blkQ_ret vPick_b vEqB_t vEqB_f vEqNil_sn vEqNil_ss vEqNil_pn vEqNil_ps vUn_neg vUn_not vUn_xor vConv_i vFa_p vIa_s vFld_a vExt_t vNilc_p vLen_s vLen_t vMnx_t vMnx_f abin_add abin_sub abin_mul abin_eql abin_neq abin_lss abin_leq abin_gtr abin_geq abin_and abin_or abin_xor abin_quo abin_rem abin_shl abin_shr abin_seq abin_sne abin_scat ev_tmp ev_const ev_func put_get puto_some puto_none args0_get List.getD_cons_succ List.getD_cons_zero Option.isSome_some Option.getD_some Option.isNone_none Option.isNone_some Option.map_some Option.map_none Value.bool.injEq Value.int.injEq add_mk aload_ptr rd_mk rdObj_row set_get astore_ptr apart_f apart_t List.length_cons List.length_nil List.drop_succ_cons List.drop_zero List.take_succ_cons List.take_zero List.map_cons List.map_nil Option.bind_some Option.bind_none ares_nil ares_tmp oneOf1 Nat.zero_add Nat.add_zero Bool.not_true Bool.not_false ne_eq not_false_eq_true not_true_eq_false decide_true decide_false Bool.true_and Bool.and_true Bool.false_eq_true and_self and_true true_and List.getElem?_cons_zero List.getElem?_cons_succ vc_agg vc_int vc_bool vc_slice aw_chk1 aw_chk2 st_agg st_int st_slice st_ptr one_int one_bool one_slice one_ptr one_str splice_eq aparts_nil aparts_cons afill_nil afill_cons rz0 rz1 rz2 List.all_cons List.all_nil Bool.and_self List.nil_append List.cons_append List.append_nil set_set

theorem spec_l00In (n lo hi : Int) (H : Hp) (K : Value → Hp → Prop) (hK : K (.bool (within n lo hi)) H) : ACalls Go.Proofs.Try.prog n_spec_l00In #[.int .i64 n, .int .i64 lo, .int .i64 hi] H K := by
  refine acalls_go fn_spec_l00In rfl fun hl => ?_
  simp only [c_spec_l00In]
  cases h : decide (n ≥ lo) with
  | true =>
    simp only [go_sem, ↓reduceIte, Nat.reduceEqDiff, reduceCtorEq, Nat.reduceAdd, Nat.reduceLeDiff, Nat.reduceSub, Nat.reduceMul, Int.reduceEq, Nat.reduceBEq, h]
    have : decide (lo ≤ n) = true := h
    exact retQ_r1 (by (try simp only [go_sem, ↓reduceIte, Nat.reduceEqDiff, reduceCtorEq, Nat.reduceAdd, Nat.reduceLeDiff, Nat.reduceSub, Nat.reduceMul, Int.reduceEq, Nat.reduceBEq]) <;> rfl) _ (Hp.sub.refl _) (by simpa [within, this] using hK)
  | false =>
    simp only [go_sem, ↓reduceIte, Nat.reduceEqDiff, reduceCtorEq, Nat.reduceAdd, Nat.reduceLeDiff, Nat.reduceSub, Nat.reduceMul, Int.reduceEq, Nat.reduceBEq, h]
    have : decide (lo ≤ n) = false := h
    exact retQ_r1 (by (try simp only [go_sem, ↓reduceIte, Nat.reduceEqDiff, reduceCtorEq, Nat.reduceAdd, Nat.reduceLeDiff, Nat.reduceSub, Nat.reduceMul, Int.reduceEq, Nat.reduceBEq]) <;> rfl) _ (Hp.sub.refl _) (by simpa [within, this] using hK)
theorem spec_l07Station (n : NetD) (s : Value) (x : Int) (hn : n.ok) (H : Hp) {b ty tot : Nat} {own : Bool} (hb : H b = some (.row own ty (encNet n s) tot)) (K : Value → Hp → Prop) (hK : K (.bool (isSt n x)) H) :
    ACalls Go.Proofs.Try.prog n_spec_l07Station #[.pointer (some ⟨b, 0, none⟩), .int .i64 x] H K := by
  refine acalls_go fn_spec_l07Station rfl fun hl => ?_
  simp only [c_spec_l07Station]
  rw [netRow] at hb
  have w1 : IntKind.i64.wrap n.st = n.st := wrap_i64 (by have := hn.1; omega) (by have := hn.1; omega)
  have w2 : IntKind.i64.wrap (n.st - 1) = n.st - 1 := wrap_i64 (by have := hn.1; omega) (by have := hn.1; omega)
  simp only [go_sem, ↓reduceIte, Nat.reduceEqDiff, reduceCtorEq, Nat.reduceAdd, Nat.reduceLeDiff, Nat.reduceSub, Nat.reduceMul, Int.reduceEq, Nat.reduceBEq, hb, w1, w2]
  refine aw_call (by (try simp only [go_sem, ↓reduceIte, Nat.reduceEqDiff, reduceCtorEq, Nat.reduceAdd, Nat.reduceLeDiff, Nat.reduceSub, Nat.reduceMul, Int.reduceEq, Nat.reduceBEq]) <;> rfl) (by (try simp only [go_sem, ↓reduceIte, Nat.reduceEqDiff, reduceCtorEq, Nat.reduceAdd, Nat.reduceLeDiff, Nat.reduceSub, Nat.reduceMul, Int.reduceEq, Nat.reduceBEq]) <;> rfl) (spec_l00In _ _ _ _ _ ?_)
  simp only [go_sem, ↓reduceIte, Nat.reduceEqDiff, reduceCtorEq, Nat.reduceAdd, Nat.reduceLeDiff, Nat.reduceSub, Nat.reduceMul, Int.reduceEq, Nat.reduceBEq]
  exact retQ_r1 (by (try simp only [go_sem, ↓reduceIte, Nat.reduceEqDiff, reduceCtorEq, Nat.reduceAdd, Nat.reduceLeDiff, Nat.reduceSub, Nat.reduceMul, Int.reduceEq, Nat.reduceBEq]) <;> rfl) H (Hp.sub.refl _) hK
theorem spec_l07Hour (x : Int) (H : Hp) (K : Value → Hp → Prop) (hK : K (.bool (within x 0 300)) H) : ACalls Go.Proofs.Try.prog n_spec_l07Hour #[.int .i64 x] H K := by
  refine acalls_go fn_spec_l07Hour rfl fun hl => ?_
  simp only [c_spec_l07Hour]
  simp only [go_sem, ↓reduceIte, Nat.reduceEqDiff, reduceCtorEq, Nat.reduceAdd, Nat.reduceLeDiff, Nat.reduceSub, Nat.reduceMul, Int.reduceEq, Nat.reduceBEq]
  refine aw_call (by (try simp only [go_sem, ↓reduceIte, Nat.reduceEqDiff, reduceCtorEq, Nat.reduceAdd, Nat.reduceLeDiff, Nat.reduceSub, Nat.reduceMul, Int.reduceEq, Nat.reduceBEq]) <;> rfl) (by (try simp only [go_sem, ↓reduceIte, Nat.reduceEqDiff, reduceCtorEq, Nat.reduceAdd, Nat.reduceLeDiff, Nat.reduceSub, Nat.reduceMul, Int.reduceEq, Nat.reduceBEq]) <;> rfl) (spec_l00In _ _ _ _ _ ?_)
  simp only [go_sem, ↓reduceIte, Nat.reduceEqDiff, reduceCtorEq, Nat.reduceAdd, Nat.reduceLeDiff, Nat.reduceSub, Nat.reduceMul, Int.reduceEq, Nat.reduceBEq]
  exact retQ_r1 (by (try simp only [go_sem, ↓reduceIte, Nat.reduceEqDiff, reduceCtorEq, Nat.reduceAdd, Nat.reduceLeDiff, Nat.reduceSub, Nat.reduceMul, Int.reduceEq, Nat.reduceBEq]) <;> rfl) H (Hp.sub.refl _) hK
def scanOk (n : NetD) (a : Int × Int) : Bool := isSt n a.1 && within a.2 0 300
theorem spec_l07Scan (n : NetD) (s : Value) (a : Int × Int) (hn : n.ok) (ha : okScan a) (H : Hp) {b ty tot : Nat} {own : Bool} (hb : H b = some (.row own ty (encNet n s) tot)) (K : Value → Hp → Prop) (hK : K (.bool (scanOk n a)) H) :
    ACalls Go.Proofs.Try.prog n_spec_l07Scan #[.pointer (some ⟨b, 0, none⟩), .agg (encScan a).toArray] H K := by
  refine acalls_go fn_spec_l07Scan rfl fun hl => ?_
  simp only [c_spec_l07Scan, encScan]
  refine aw_boxv (by (try simp only [go_sem, ↓reduceIte, Nat.reduceEqDiff, reduceCtorEq, Nat.reduceAdd, Nat.reduceLeDiff, Nat.reduceSub, Nat.reduceMul, Int.reduceEq, Nat.reduceBEq]) <;> rfl) fun b2 hb2 => ?_
  have hne := some_ne hb hb2
  have w1 : IntKind.i64.wrap a.1 = a.1 := wrap_i64 (by have := ha.1; omega) (by have := ha.1; omega)
  have w2 : IntKind.i64.wrap a.2 = a.2 := wrap_i64 (by have := ha.2; omega) (by have := ha.2; omega)
  simp only [go_sem, ↓reduceIte, Nat.reduceEqDiff, reduceCtorEq, Nat.reduceAdd, Nat.reduceLeDiff, Nat.reduceSub, Nat.reduceMul, Int.reduceEq, Nat.reduceBEq, w1, w2]
  refine aw_call (by (try simp only [go_sem, ↓reduceIte, Nat.reduceEqDiff, reduceCtorEq, Nat.reduceAdd, Nat.reduceLeDiff, Nat.reduceSub, Nat.reduceMul, Int.reduceEq, Nat.reduceBEq]) <;> rfl) (by (try simp only [go_sem, ↓reduceIte, Nat.reduceEqDiff, reduceCtorEq, Nat.reduceAdd, Nat.reduceLeDiff, Nat.reduceSub, Nat.reduceMul, Int.reduceEq, Nat.reduceBEq]) <;> rfl) (spec_l07Station n s a.1 hn _ (by rw [set_ne hne]; exact hb) _ ?_)
  cases e1 : isSt n a.1 with
  | false =>
    simp only [go_sem, ↓reduceIte, Nat.reduceEqDiff, reduceCtorEq, Nat.reduceAdd, Nat.reduceLeDiff, Nat.reduceSub, Nat.reduceMul, Int.reduceEq, Nat.reduceBEq]
    exact retQ_r1 (by (try simp only [go_sem, ↓reduceIte, Nat.reduceEqDiff, reduceCtorEq, Nat.reduceAdd, Nat.reduceLeDiff, Nat.reduceSub, Nat.reduceMul, Int.reduceEq, Nat.reduceBEq]) <;> rfl) H (by repeat (first | (with_reducible exact Hp.sub.refl _) | (with_reducible assumption) | (with_reducible refine sub_set0 ?_ ?_) | exact none_set (by with_reducible assumption) | exact none_set (none_set (by with_reducible assumption)) | exact none_set (none_set (none_set (by with_reducible assumption))))) (by simpa [scanOk, e1] using hK)
  | true =>
    simp only [go_sem, ↓reduceIte, Nat.reduceEqDiff, reduceCtorEq, Nat.reduceAdd, Nat.reduceLeDiff, Nat.reduceSub, Nat.reduceMul, Int.reduceEq, Nat.reduceBEq, w1, w2]
    refine aw_call (by (try simp only [go_sem, ↓reduceIte, Nat.reduceEqDiff, reduceCtorEq, Nat.reduceAdd, Nat.reduceLeDiff, Nat.reduceSub, Nat.reduceMul, Int.reduceEq, Nat.reduceBEq]) <;> rfl) (by (try simp only [go_sem, ↓reduceIte, Nat.reduceEqDiff, reduceCtorEq, Nat.reduceAdd, Nat.reduceLeDiff, Nat.reduceSub, Nat.reduceMul, Int.reduceEq, Nat.reduceBEq]) <;> rfl) (spec_l07Hour _ _ _ ?_)
    simp only [go_sem, ↓reduceIte, Nat.reduceEqDiff, reduceCtorEq, Nat.reduceAdd, Nat.reduceLeDiff, Nat.reduceSub, Nat.reduceMul, Int.reduceEq, Nat.reduceBEq]
    exact retQ_r1 (by (try simp only [go_sem, ↓reduceIte, Nat.reduceEqDiff, reduceCtorEq, Nat.reduceAdd, Nat.reduceLeDiff, Nat.reduceSub, Nat.reduceMul, Int.reduceEq, Nat.reduceBEq]) <;> rfl) H (by repeat (first | (with_reducible exact Hp.sub.refl _) | (with_reducible assumption) | (with_reducible refine sub_set0 ?_ ?_) | exact none_set (by with_reducible assumption) | exact none_set (none_set (by with_reducible assumption)) | exact none_set (none_set (none_set (by with_reducible assumption))))) (by simpa [scanOk, e1] using hK)
def laneBad' (n : NetD) (l : LaneD) : Bool := !isSt n l.frm || !isSt n l.to || decide (l.frm = l.to) || decide (l.least < 1) || decide (l.least > l.most) || decide (l.most > 40)
theorem laneBad_eq (n : NetD) (l : LaneD) : laneBad n l = laneBad' n l := by
  unfold laneBad laneBad' within
  by_cases h1 : 1 ≤ l.least <;> by_cases h2 : l.least ≤ l.most <;> simp [h1, h2, show (l.least < 1) = ¬ (1 ≤ l.least) by simp, show (l.most < l.least) = ¬ (l.least ≤ l.most) by simp]
theorem spec_l07Ok (n : NetD) (s : Value) (hn : n.ok) {H : Hp} (hs : Sl H 4 s (n.lanes.map encLane)) {b ty tot : Nat} {own : Bool} (hb : H b = some (.row own ty (encNet n s) tot)) (K : Value → Hp → Prop) (hK : K (.bool (validNet n)) H) :
    ACalls Go.Proofs.Try.prog n_spec_l07Ok #[.pointer (some ⟨b, 0, none⟩)] H K := by
  refine acalls_go fn_spec_l07Ok rfl fun hl => ?_
  simp only [c_spec_l07Ok]
  have hb0 := hb
  rw [netRow] at hb
  have h1 : IntKind.i64.wrap n.st = n.st := wrap_i64 (by have := hn.1; omega) (by have := hn.1; omega)
  have h2 : IntKind.i64.wrap n.stay = n.stay := wrap_i64 (by have := hn.2.1; omega) (by have := hn.2.1; omega)
  have hlen := hs.len
  have hle := hs.le
  rw [List.length_map] at hlen hle
  simp only [go_sem, ↓reduceIte, Nat.reduceEqDiff, reduceCtorEq, Nat.reduceAdd, Nat.reduceLeDiff, Nat.reduceSub, Nat.reduceMul, Int.reduceEq, Nat.reduceBEq, hb, h1, h2]
  refine aw_call (by (try simp only [go_sem, ↓reduceIte, Nat.reduceEqDiff, reduceCtorEq, Nat.reduceAdd, Nat.reduceLeDiff, Nat.reduceSub, Nat.reduceMul, Int.reduceEq, Nat.reduceBEq]) <;> rfl) (by (try simp only [go_sem, ↓reduceIte, Nat.reduceEqDiff, reduceCtorEq, Nat.reduceAdd, Nat.reduceLeDiff, Nat.reduceSub, Nat.reduceMul, Int.reduceEq, Nat.reduceBEq]) <;> rfl) (spec_l00In _ _ _ _ _ ?_)
  cases e1 : within n.st 1 8 with
  | false =>
    simp only [go_sem, ↓reduceIte, Nat.reduceEqDiff, reduceCtorEq, Nat.reduceAdd, Nat.reduceLeDiff, Nat.reduceSub, Nat.reduceMul, Int.reduceEq, Nat.reduceBEq]
    exact retQ_r1 (by (try simp only [go_sem, ↓reduceIte, Nat.reduceEqDiff, reduceCtorEq, Nat.reduceAdd, Nat.reduceLeDiff, Nat.reduceSub, Nat.reduceMul, Int.reduceEq, Nat.reduceBEq]) <;> rfl) H (Hp.sub.refl _) (by simpa [validNet, e1] using hK)
  | true =>
    simp only [go_sem, ↓reduceIte, Nat.reduceEqDiff, reduceCtorEq, Nat.reduceAdd, Nat.reduceLeDiff, Nat.reduceSub, Nat.reduceMul, Int.reduceEq, Nat.reduceBEq, hb, h1, h2]
    refine aw_call (by (try simp only [go_sem, ↓reduceIte, Nat.reduceEqDiff, reduceCtorEq, Nat.reduceAdd, Nat.reduceLeDiff, Nat.reduceSub, Nat.reduceMul, Int.reduceEq, Nat.reduceBEq]) <;> rfl) (by (try simp only [go_sem, ↓reduceIte, Nat.reduceEqDiff, reduceCtorEq, Nat.reduceAdd, Nat.reduceLeDiff, Nat.reduceSub, Nat.reduceMul, Int.reduceEq, Nat.reduceBEq]) <;> rfl) (spec_l00In _ _ _ _ _ ?_)
    cases e2 : within n.stay 0 40 with
    | false =>
      simp only [go_sem, ↓reduceIte, Nat.reduceEqDiff, reduceCtorEq, Nat.reduceAdd, Nat.reduceLeDiff, Nat.reduceSub, Nat.reduceMul, Int.reduceEq, Nat.reduceBEq]
      exact retQ_r1 (by (try simp only [go_sem, ↓reduceIte, Nat.reduceEqDiff, reduceCtorEq, Nat.reduceAdd, Nat.reduceLeDiff, Nat.reduceSub, Nat.reduceMul, Int.reduceEq, Nat.reduceBEq]) <;> rfl) H (Hp.sub.refl _) (by simpa [validNet, e1, e2] using hK)
    | true =>
      cases e3 : decide (n.lanes.length ≤ 20) with
      | false =>
        have e3' : decide ((n.lanes.length : Int) > 20) = true := by simp at e3 ⊢; omega
        simp only [go_sem, ↓reduceIte, Nat.reduceEqDiff, reduceCtorEq, Nat.reduceAdd, Nat.reduceLeDiff, Nat.reduceSub, Nat.reduceMul, Int.reduceEq, Nat.reduceBEq, hb, h1, h2, hlen, e3']
        exact retQ_r1 (by (try simp only [go_sem, ↓reduceIte, Nat.reduceEqDiff, reduceCtorEq, Nat.reduceAdd, Nat.reduceLeDiff, Nat.reduceSub, Nat.reduceMul, Int.reduceEq, Nat.reduceBEq]) <;> rfl) H (Hp.sub.refl _) (by simpa only [validNet, e1, e2, e3, Bool.true_and, Bool.false_and] using hK)
      | true =>
        have e3' : decide ((n.lanes.length : Int) > 20) = false := by simp at e3 ⊢; omega
        simp only [go_sem, ↓reduceIte, Nat.reduceEqDiff, reduceCtorEq, Nat.reduceAdd, Nat.reduceLeDiff, Nat.reduceSub, Nat.reduceMul, Int.reduceEq, Nat.reduceBEq, hb, h1, h2, hlen, e3']
        simp only [validNet, e1, e2, e3, Bool.true_and] at hK
        refine aw_loopM hl (fun m T' H' => ∃ i : Nat, i ≤ n.lanes.length ∧ m = n.lanes.length - i ∧ T' 3 = .int .i64 i ∧ H' = H ∧ ∀ j, j < i → ∀ x, n.lanes[j]? = some x → laneBad n x = false) n.lanes.length H (Hp.sub.refl _) ⟨0, by omega, rfl, (by (try simp only [go_sem, ↓reduceIte, Nat.reduceEqDiff, reduceCtorEq, Nat.reduceAdd, Nat.reduceLeDiff, Nat.reduceSub, Nat.reduceMul, Int.reduceEq, Nat.reduceBEq]) <;> rfl), rfl, fun j hj => absurd hj (by omega)⟩ ?_
        rintro m T' H' hl' hoff ⟨i, hi, rfl, hT3, rfl, hno⟩
        have t0 : T' 0 = .pointer (some ⟨b, 0, none⟩) := by rw [hoff.get rfl]; simp only [go_sem, ↓reduceIte, Nat.reduceEqDiff, reduceCtorEq, Nat.reduceAdd, Nat.reduceLeDiff, Nat.reduceSub, Nat.reduceMul, Int.reduceEq, Nat.reduceBEq]
        by_cases hlt : i < n.lanes.length
        · have hd : decide ((i : Int) < (n.lanes.length : Int)) = true := by simp [hlt]
          obtain ⟨bb, off, hia, hrd⟩ := hs.at (k := .i64) (i := (i : Int)) (by omega) (by simp; omega)
          have hx : n.lanes[i]? = some n.lanes[i] := by simp [hlt]
          have hrow : (n.lanes.map encLane).getD (i : Int).toNat [] = encLane n.lanes[i] := by simp [List.getD_eq_getElem?_getD, hlt]
          rw [hrow, laneRow] at hrd
          have hlo := hn.2.2 n.lanes[i] (by simp)
          generalize hlane : n.lanes[i] = l at *
          have w1 : IntKind.i64.wrap l.frm = l.frm := wrap_i64 (by have := hlo.1; omega) (by have := hlo.1; omega)
          have w2 : IntKind.i64.wrap l.to = l.to := wrap_i64 (by have := hlo.2.1; omega) (by have := hlo.2.1; omega)
          have w3 : IntKind.i64.wrap ((i : Int) + 1) = ((i + 1 : Nat) : Int) := by rw [wrap_i64 (by omega) (by omega)]; simp
          have hbad : laneBad n l = true → K (.bool false) H' := by
            intro h
            have : n.lanes.any (laneBad n) = true := List.any_eq_true.2 ⟨l, by rw [← hlane]; simp, h⟩
            rw [this] at hK
            exact hK
          have hgood : laneBad n l = false → ∀ j, j < i + 1 → ∀ x, n.lanes[j]? = some x → laneBad n x = false := by
            intro h j hj x hx'
            by_cases e : j = i
            · subst e; rw [hx] at hx'; cases hx'; exact h
            · exact hno j (by omega) x hx'
          rw [laneBad_eq] at hbad hgood
          simp only [go_sem, ↓reduceIte, Nat.reduceEqDiff, reduceCtorEq, Nat.reduceAdd, Nat.reduceLeDiff, Nat.reduceSub, Nat.reduceMul, Int.reduceEq, Nat.reduceBEq, t0, hb, hT3, hlen, hd, hia, hrd]
          refine aw_alloc fun b4 hb4 => ?_
          have x1 := some_ne hb hb4
          simp only [go_sem, ↓reduceIte, Nat.reduceEqDiff, reduceCtorEq, Nat.reduceAdd, Nat.reduceLeDiff, Nat.reduceSub, Nat.reduceMul, Int.reduceEq, Nat.reduceBEq, t0, hb, hT3, hlen, hd, hia, hrd, x1, w1, w2]
          refine aw_call (by (try simp only [go_sem, ↓reduceIte, Nat.reduceEqDiff, reduceCtorEq, Nat.reduceAdd, Nat.reduceLeDiff, Nat.reduceSub, Nat.reduceMul, Int.reduceEq, Nat.reduceBEq]) <;> rfl) (by (try simp only [go_sem, ↓reduceIte, Nat.reduceEqDiff, reduceCtorEq, Nat.reduceAdd, Nat.reduceLeDiff, Nat.reduceSub, Nat.reduceMul, Int.reduceEq, Nat.reduceBEq]) <;> rfl) (spec_l07Station n s l.frm hn _ (by rw [set_ne x1]; exact hb0) _ ?_)
          cases q1 : isSt n l.frm with
          | false =>
            simp only [go_sem, ↓reduceIte, Nat.reduceEqDiff, reduceCtorEq, Nat.reduceAdd, Nat.reduceLeDiff, Nat.reduceSub, Nat.reduceMul, Int.reduceEq, Nat.reduceBEq]
            exact retQ_r1 (by (try simp only [go_sem, ↓reduceIte, Nat.reduceEqDiff, reduceCtorEq, Nat.reduceAdd, Nat.reduceLeDiff, Nat.reduceSub, Nat.reduceMul, Int.reduceEq, Nat.reduceBEq]) <;> rfl) H' (by repeat (first | (with_reducible exact Hp.sub.refl _) | (with_reducible assumption) | (with_reducible refine sub_set0 ?_ ?_) | exact none_set (by with_reducible assumption) | exact none_set (none_set (by with_reducible assumption)) | exact none_set (none_set (none_set (by with_reducible assumption))))) (hbad (by simp [laneBad', q1]))
          | true =>
            simp only [go_sem, ↓reduceIte, Nat.reduceEqDiff, reduceCtorEq, Nat.reduceAdd, Nat.reduceLeDiff, Nat.reduceSub, Nat.reduceMul, Int.reduceEq, Nat.reduceBEq, t0, hb, x1, w1, w2]
            refine aw_call (by (try simp only [go_sem, ↓reduceIte, Nat.reduceEqDiff, reduceCtorEq, Nat.reduceAdd, Nat.reduceLeDiff, Nat.reduceSub, Nat.reduceMul, Int.reduceEq, Nat.reduceBEq]) <;> rfl) (by (try simp only [go_sem, ↓reduceIte, Nat.reduceEqDiff, reduceCtorEq, Nat.reduceAdd, Nat.reduceLeDiff, Nat.reduceSub, Nat.reduceMul, Int.reduceEq, Nat.reduceBEq]) <;> rfl) (spec_l07Station n s l.to hn _ (by rw [set_ne x1]; exact hb0) _ ?_)
            cases q2 : isSt n l.to with
            | false =>
              simp only [go_sem, ↓reduceIte, Nat.reduceEqDiff, reduceCtorEq, Nat.reduceAdd, Nat.reduceLeDiff, Nat.reduceSub, Nat.reduceMul, Int.reduceEq, Nat.reduceBEq]
              exact retQ_r1 (by (try simp only [go_sem, ↓reduceIte, Nat.reduceEqDiff, reduceCtorEq, Nat.reduceAdd, Nat.reduceLeDiff, Nat.reduceSub, Nat.reduceMul, Int.reduceEq, Nat.reduceBEq]) <;> rfl) H' (by repeat (first | (with_reducible exact Hp.sub.refl _) | (with_reducible assumption) | (with_reducible refine sub_set0 ?_ ?_) | exact none_set (by with_reducible assumption) | exact none_set (none_set (by with_reducible assumption)) | exact none_set (none_set (none_set (by with_reducible assumption))))) (hbad (by simp [laneBad', q2]))
            | true =>
              cases q3 : decide (l.frm = l.to) with
              | true =>
                simp only [go_sem, ↓reduceIte, Nat.reduceEqDiff, reduceCtorEq, Nat.reduceAdd, Nat.reduceLeDiff, Nat.reduceSub, Nat.reduceMul, Int.reduceEq, Nat.reduceBEq, t0, hb, x1, w1, w2, q3]
                exact retQ_r1 (by (try simp only [go_sem, ↓reduceIte, Nat.reduceEqDiff, reduceCtorEq, Nat.reduceAdd, Nat.reduceLeDiff, Nat.reduceSub, Nat.reduceMul, Int.reduceEq, Nat.reduceBEq]) <;> rfl) H' (by repeat (first | (with_reducible exact Hp.sub.refl _) | (with_reducible assumption) | (with_reducible refine sub_set0 ?_ ?_) | exact none_set (by with_reducible assumption) | exact none_set (none_set (by with_reducible assumption)) | exact none_set (none_set (none_set (by with_reducible assumption))))) (hbad (by simp only [laneBad', q3]; simp))
              | false =>
                cases q4 : decide (l.least < 1) with
                | true =>
                  simp only [go_sem, ↓reduceIte, Nat.reduceEqDiff, reduceCtorEq, Nat.reduceAdd, Nat.reduceLeDiff, Nat.reduceSub, Nat.reduceMul, Int.reduceEq, Nat.reduceBEq, t0, hb, x1, w1, w2, q3, q4]
                  exact retQ_r1 (by (try simp only [go_sem, ↓reduceIte, Nat.reduceEqDiff, reduceCtorEq, Nat.reduceAdd, Nat.reduceLeDiff, Nat.reduceSub, Nat.reduceMul, Int.reduceEq, Nat.reduceBEq]) <;> rfl) H' (by repeat (first | (with_reducible exact Hp.sub.refl _) | (with_reducible assumption) | (with_reducible refine sub_set0 ?_ ?_) | exact none_set (by with_reducible assumption) | exact none_set (none_set (by with_reducible assumption)) | exact none_set (none_set (none_set (by with_reducible assumption))))) (hbad (by simp only [laneBad', q4]; simp))
                | false =>
                  cases q5 : decide (l.least > l.most) with
                  | true =>
                    simp only [go_sem, ↓reduceIte, Nat.reduceEqDiff, reduceCtorEq, Nat.reduceAdd, Nat.reduceLeDiff, Nat.reduceSub, Nat.reduceMul, Int.reduceEq, Nat.reduceBEq, t0, hb, x1, w1, w2, q3, q4, q5]
                    exact retQ_r1 (by (try simp only [go_sem, ↓reduceIte, Nat.reduceEqDiff, reduceCtorEq, Nat.reduceAdd, Nat.reduceLeDiff, Nat.reduceSub, Nat.reduceMul, Int.reduceEq, Nat.reduceBEq]) <;> rfl) H' (by repeat (first | (with_reducible exact Hp.sub.refl _) | (with_reducible assumption) | (with_reducible refine sub_set0 ?_ ?_) | exact none_set (by with_reducible assumption) | exact none_set (none_set (by with_reducible assumption)) | exact none_set (none_set (none_set (by with_reducible assumption))))) (hbad (by simp only [laneBad', q5]; simp))
                  | false =>
                    cases q6 : decide (l.most > 40) with
                    | true =>
                      simp only [go_sem, ↓reduceIte, Nat.reduceEqDiff, reduceCtorEq, Nat.reduceAdd, Nat.reduceLeDiff, Nat.reduceSub, Nat.reduceMul, Int.reduceEq, Nat.reduceBEq, t0, hb, x1, w1, w2, q3, q4, q5, q6]
                      exact retQ_r1 (by (try simp only [go_sem, ↓reduceIte, Nat.reduceEqDiff, reduceCtorEq, Nat.reduceAdd, Nat.reduceLeDiff, Nat.reduceSub, Nat.reduceMul, Int.reduceEq, Nat.reduceBEq]) <;> rfl) H' (by repeat (first | (with_reducible exact Hp.sub.refl _) | (with_reducible assumption) | (with_reducible refine sub_set0 ?_ ?_) | exact none_set (by with_reducible assumption) | exact none_set (none_set (by with_reducible assumption)) | exact none_set (none_set (none_set (by with_reducible assumption))))) (hbad (by simp only [laneBad', q6]; simp))
                    | false =>
                      simp only [go_sem, ↓reduceIte, Nat.reduceEqDiff, reduceCtorEq, Nat.reduceAdd, Nat.reduceLeDiff, Nat.reduceSub, Nat.reduceMul, Int.reduceEq, Nat.reduceBEq, t0, hb, x1, w1, w2, q3, q4, q5, q6, hT3, w3]
                      exact ⟨n.lanes.length - (i + 1), H', by omega, (by repeat (first | (with_reducible exact Hp.sub.refl _) | (with_reducible assumption) | (with_reducible refine sub_set0 ?_ ?_) | exact none_set (by with_reducible assumption) | exact none_set (none_set (by with_reducible assumption)) | exact none_set (none_set (none_set (by with_reducible assumption))))), i + 1, by omega, rfl, (by (try simp only [go_sem, ↓reduceIte, Nat.reduceEqDiff, reduceCtorEq, Nat.reduceAdd, Nat.reduceLeDiff, Nat.reduceSub, Nat.reduceMul, Int.reduceEq, Nat.reduceBEq]) <;> rfl), rfl, hgood (by simp only [laneBad', q1, q2, q3, q4, q5, q6]; rfl)⟩
        · have hd : decide ((i : Int) < (n.lanes.length : Int)) = false := by simp; omega
          simp only [go_sem, ↓reduceIte, Nat.reduceEqDiff, reduceCtorEq, Nat.reduceAdd, Nat.reduceLeDiff, Nat.reduceSub, Nat.reduceMul, Int.reduceEq, Nat.reduceBEq, t0, hb, hT3, hlen, hd]
          have hfin : n.lanes.any (laneBad n) = false := by
            rw [List.any_eq_false]
            intro x hx
            obtain ⟨j, hj, rfl⟩ := List.getElem_of_mem hx
            have := hno j (by omega) n.lanes[j] (by simp)
            simp [this]
          rw [hfin] at hK
          show lpQ _ _ _ (.exit 0) _ _
          simp only [lpQ]
          simp only [go_sem, ↓reduceIte, Nat.reduceEqDiff, reduceCtorEq, Nat.reduceAdd, Nat.reduceLeDiff, Nat.reduceSub, Nat.reduceMul, Int.reduceEq, Nat.reduceBEq]
          exact retQ_r1 (by (try simp only [go_sem, ↓reduceIte, Nat.reduceEqDiff, reduceCtorEq, Nat.reduceAdd, Nat.reduceLeDiff, Nat.reduceSub, Nat.reduceMul, Int.reduceEq, Nat.reduceBEq]) <;> rfl) H' (Hp.sub.refl _) hK
theorem spec_l07Asked (n : NetD) (s : Value) (hn : n.ok) (fine : Bool) {H : Hp} (hs : Sl H 4 s (n.lanes.map encLane)) {b ty tot : Nat} {own : Bool} (hb : H b = some (.row own ty (encNet n s) tot)) (K : Value → Hp → Prop) (hK : K (.int .i64 (if !validNet n then 1 else if fine then 0 else 2)) H) :
    ACalls Go.Proofs.Try.prog n_spec_l07Asked #[.pointer (some ⟨b, 0, none⟩), .bool fine] H K := by
  refine acalls_go fn_spec_l07Asked rfl fun hl => ?_
  simp only [c_spec_l07Asked]
  simp only [go_sem, ↓reduceIte, Nat.reduceEqDiff, reduceCtorEq, Nat.reduceAdd, Nat.reduceLeDiff, Nat.reduceSub, Nat.reduceMul, Int.reduceEq, Nat.reduceBEq]
  refine aw_call (by (try simp only [go_sem, ↓reduceIte, Nat.reduceEqDiff, reduceCtorEq, Nat.reduceAdd, Nat.reduceLeDiff, Nat.reduceSub, Nat.reduceMul, Int.reduceEq, Nat.reduceBEq]) <;> rfl) (by (try simp only [go_sem, ↓reduceIte, Nat.reduceEqDiff, reduceCtorEq, Nat.reduceAdd, Nat.reduceLeDiff, Nat.reduceSub, Nat.reduceMul, Int.reduceEq, Nat.reduceBEq]) <;> rfl) (spec_l07Ok n s hn hs hb _ ?_)
  cases e1 : validNet n with
  | false =>
    simp only [go_sem, ↓reduceIte, Nat.reduceEqDiff, reduceCtorEq, Nat.reduceAdd, Nat.reduceLeDiff, Nat.reduceSub, Nat.reduceMul, Int.reduceEq, Nat.reduceBEq]
    exact retQ_r1 (by (try simp only [go_sem, ↓reduceIte, Nat.reduceEqDiff, reduceCtorEq, Nat.reduceAdd, Nat.reduceLeDiff, Nat.reduceSub, Nat.reduceMul, Int.reduceEq, Nat.reduceBEq]) <;> rfl) H (Hp.sub.refl _) (by simpa [e1] using hK)
  | true =>
    cases fine with
    | false =>
      simp only [go_sem, ↓reduceIte, Nat.reduceEqDiff, reduceCtorEq, Nat.reduceAdd, Nat.reduceLeDiff, Nat.reduceSub, Nat.reduceMul, Int.reduceEq, Nat.reduceBEq]
      exact retQ_r1 (by (try simp only [go_sem, ↓reduceIte, Nat.reduceEqDiff, reduceCtorEq, Nat.reduceAdd, Nat.reduceLeDiff, Nat.reduceSub, Nat.reduceMul, Int.reduceEq, Nat.reduceBEq]) <;> rfl) H (Hp.sub.refl _) (by simpa [e1] using hK)
    | true =>
      simp only [go_sem, ↓reduceIte, Nat.reduceEqDiff, reduceCtorEq, Nat.reduceAdd, Nat.reduceLeDiff, Nat.reduceSub, Nat.reduceMul, Int.reduceEq, Nat.reduceBEq]
      exact retQ_r1 (by (try simp only [go_sem, ↓reduceIte, Nat.reduceEqDiff, reduceCtorEq, Nat.reduceAdd, Nat.reduceLeDiff, Nat.reduceSub, Nat.reduceMul, Int.reduceEq, Nat.reduceBEq]) <;> rfl) H (Hp.sub.refl _) (by simpa [e1] using hK)
end Go.Proofs.Ytonmmfjagkgifaa
