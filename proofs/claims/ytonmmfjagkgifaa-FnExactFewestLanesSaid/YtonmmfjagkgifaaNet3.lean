/- Nets: the law's own small functions. -/
import Derived.Test.YtonmmfjagkgifaaNet2
set_option linter.unusedVariables false
set_option linter.unusedSimpArgs false
namespace Go.Proofs.Ytonmmfjagkgifaa
open Go.RowKit
attribute [local go_sem] aw_mv aw_mkf aw_pick aw_bin aw_eqB aw_eqNil aw_eqAgg aw_un aw_conv aw_fa aw_ia aw_iaArr aw_ixArr aw_ixStr aw_fld aw_ext aw_bld aw_nilc aw_slc aw_slcArr aw_slcStr aw_len aw_cap aw_mnx aw_ld aw_st aw_guard_y aw_guard_n aw_nil aw_exit aw_ret aw_cond_t aw_cond_f aw_blk seqQ_norm seqQ_exit seqQ_ret blkQ_norm blkQ_exit_same blkQ_exit_ne blkQ_ret vPick_b vEqB_t vEqB_f vEqNil_sn vEqNil_ss vEqNil_pn vEqNil_ps vUn_neg vUn_not vUn_xor vConv_i vFa_p vIa_s vFld_a vExt_t vNilc_p vLen_s vLen_t vMnx_t vMnx_f abin_add abin_sub abin_mul abin_eql abin_neq abin_lss abin_leq abin_gtr abin_geq abin_and abin_or abin_xor abin_quo abin_rem abin_shl abin_shr abin_seq abin_sne abin_scat ev_tmp ev_const ev_func put_get puto_some puto_none args0_get List.getD_cons_succ List.getD_cons_zero Option.isSome_some Option.getD_some Option.isNone_none Option.isNone_some Option.map_some Option.map_none Value.bool.injEq Value.int.injEq add_mk aload_ptr rd_mk rdObj_row set_get astore_ptr apart_f apart_t List.length_cons List.length_nil List.drop_succ_cons List.drop_zero List.take_succ_cons List.take_zero List.map_cons List.map_nil Option.bind_some Option.bind_none ares_nil ares_tmp oneOf1 Nat.zero_add Nat.add_zero Bool.not_true Bool.not_false ne_eq not_false_eq_true not_true_eq_false decide_true decide_false Bool.true_and Bool.and_true Bool.false_eq_true and_self and_true true_and List.getElem?_cons_zero List.getElem?_cons_succ vc_agg vc_int vc_bool vc_slice aw_chk1 aw_chk2 st_agg st_int st_slice st_ptr one_int one_bool one_slice one_ptr one_str splice_eq aparts_nil aparts_cons afill_nil afill_cons rz0 rz1 rz2 List.all_cons List.all_nil Bool.and_self List.nil_append List.cons_append List.append_nil set_set

theorem spec_toLane (l : LaneD) (H : Hp) (K : Value → Hp → Prop) (hK : K (.agg (encLane l).toArray) H) : ACalls Go.Proofs.Try.prog n_laws_toLane #[.agg (encLane l).toArray] H K := by
  refine acalls_go fn_laws_toLane rfl fun hl => ?_
  simp only [c_laws_toLane]
  rw [laneRow]
  refine aw_boxv (by (try simp only [go_sem, ↓reduceIte, Nat.reduceEqDiff, reduceCtorEq, Nat.reduceAdd, Nat.reduceLeDiff, Nat.reduceSub, Nat.reduceMul, Int.reduceEq, Nat.reduceBEq]) <;> rfl) fun b hb => ?_
  refine aw_alloc fun b2 hb2 => ?_
  refine aw_alloc fun b3 hb3 => ?_
  have x1 := ne_set hb2
  have x1' := x1.symm
  have x2 := ne_set hb3
  have x2' := x2.symm
  have x3 := ne_set (none_set hb3)
  have x3' := x3.symm
  simp only [go_sem, ↓reduceIte, Nat.reduceEqDiff, reduceCtorEq, Nat.reduceAdd, Nat.reduceLeDiff, Nat.reduceSub, Nat.reduceMul, Int.reduceEq, Nat.reduceBEq, x1, x2, x3, x1', x2', x3']
  exact retQ_c1 (b := b2) (off := 0) (by (try simp only [go_sem, ↓reduceIte, Nat.reduceEqDiff, reduceCtorEq, Nat.reduceAdd, Nat.reduceLeDiff, Nat.reduceSub, Nat.reduceMul, Int.reduceEq, Nat.reduceBEq]) <;> rfl) (by (try simp only [go_sem, ↓reduceIte, Nat.reduceEqDiff, reduceCtorEq, Nat.reduceAdd, Nat.reduceLeDiff, Nat.reduceSub, Nat.reduceMul, Int.reduceEq, Nat.reduceBEq, x1, x2, x3, x1', x2', x3']) <;> rfl) H (by repeat (first | (with_reducible exact Hp.sub.refl _) | (with_reducible assumption) | (with_reducible refine sub_set0 ?_ ?_) | exact none_set (by with_reducible assumption) | exact none_set (none_set (by with_reducible assumption)) | exact none_set (none_set (none_set (by with_reducible assumption))))) hK
theorem spec_toScan (a : Int × Int) (H : Hp) (K : Value → Hp → Prop) (hK : K (.agg (encScan a).toArray) H) : ACalls Go.Proofs.Try.prog n_laws_toScan #[.agg (encScan a).toArray] H K := by
  refine acalls_go fn_laws_toScan rfl fun hl => ?_
  simp only [c_laws_toScan, encScan]
  refine aw_boxv (by (try simp only [go_sem, ↓reduceIte, Nat.reduceEqDiff, reduceCtorEq, Nat.reduceAdd, Nat.reduceLeDiff, Nat.reduceSub, Nat.reduceMul, Int.reduceEq, Nat.reduceBEq]) <;> rfl) fun b hb => ?_
  refine aw_alloc fun b2 hb2 => ?_
  refine aw_alloc fun b3 hb3 => ?_
  have x1 := ne_set hb2
  have x1' := x1.symm
  have x2 := ne_set hb3
  have x2' := x2.symm
  have x3 := ne_set (none_set hb3)
  have x3' := x3.symm
  simp only [go_sem, ↓reduceIte, Nat.reduceEqDiff, reduceCtorEq, Nat.reduceAdd, Nat.reduceLeDiff, Nat.reduceSub, Nat.reduceMul, Int.reduceEq, Nat.reduceBEq, x1, x2, x3, x1', x2', x3']
  exact retQ_c1 (b := b2) (off := 0) (by (try simp only [go_sem, ↓reduceIte, Nat.reduceEqDiff, reduceCtorEq, Nat.reduceAdd, Nat.reduceLeDiff, Nat.reduceSub, Nat.reduceMul, Int.reduceEq, Nat.reduceBEq]) <;> rfl) (by (try simp only [go_sem, ↓reduceIte, Nat.reduceEqDiff, reduceCtorEq, Nat.reduceAdd, Nat.reduceLeDiff, Nat.reduceSub, Nat.reduceMul, Int.reduceEq, Nat.reduceBEq, x1, x2, x3, x1', x2', x3']) <;> rfl) H (by repeat (first | (with_reducible exact Hp.sub.refl _) | (with_reducible assumption) | (with_reducible refine sub_set0 ?_ ?_) | exact none_set (by with_reducible assumption) | exact none_set (none_set (by with_reducible assumption)) | exact none_set (none_set (none_set (by with_reducible assumption))))) hK
theorem encLane_one (l : LaneD) : (encLane l).all Value.oneCell' = true := rfl
theorem spec_toLaneS (xs : List LaneD) (hfew : xs.length ≤ 1048576) {v : Value} {H : Hp} (hs : Sl H 4 v (xs.map encLane)) {K : Value → Hp → Prop}
    (hK : ∀ b, H b = none → K (.slice (some ⟨b, 0, none⟩) xs.length xs.length) (H.set b (.row true 95 (xs.map encLane).flatten (xs.length * 4)))) : ACalls Go.Proofs.Try.prog n_laws_toLaneS #[v] H K :=
  to_spec (fe := n_laws_toLane) (by_ := 6) (zero := [.int .i8 0, .int .i8 0, .int .i16 0, .int .i16 0]) fn_laws_toLaneS rfl (by omega) encLane encLane (fun _ => rfl) (fun _ => rfl) encLane_one xs (by omega) hs (fun x _ H K h => spec_toLane x H K h) hK
theorem spec_toNet (n : NetD) (s : Value) (hfew : n.lanes.length ≤ 1048576) {H : Hp} (hs : Sl H 4 s (n.lanes.map encLane)) {K : Value → Hp → Prop}
    (hK : ∀ b, H b = none → K (.agg (encNet n (.slice (some ⟨b, 0, none⟩) n.lanes.length n.lanes.length)).toArray) (H.set b (.row true 95 (n.lanes.map encLane).flatten (n.lanes.length * 4)))) : ACalls Go.Proofs.Try.prog n_laws_toNet #[.agg (encNet n s).toArray] H K := by
  refine acalls_go fn_laws_toNet rfl fun hl => ?_
  simp only [c_laws_toNet]
  rw [netRow]
  refine aw_boxv (by (try simp only [go_sem, ↓reduceIte, Nat.reduceEqDiff, reduceCtorEq, Nat.reduceAdd, Nat.reduceLeDiff, Nat.reduceSub, Nat.reduceMul, Int.reduceEq, Nat.reduceBEq]) <;> rfl) fun b hb => ?_
  refine aw_alloc fun b2 hb2 => ?_
  refine aw_alloc fun b3 hb3 => ?_
  have x1 := ne_set hb2
  have x1' := x1.symm
  have x2 := ne_set hb3
  have x2' := x2.symm
  have x3 := ne_set (none_set hb3)
  have x3' := x3.symm
  simp only [go_sem, ↓reduceIte, Nat.reduceEqDiff, reduceCtorEq, Nat.reduceAdd, Nat.reduceLeDiff, Nat.reduceSub, Nat.reduceMul, Int.reduceEq, Nat.reduceBEq, x1, x2, x3, x1', x2', x3']
  refine aw_call (by (try simp only [go_sem, ↓reduceIte, Nat.reduceEqDiff, reduceCtorEq, Nat.reduceAdd, Nat.reduceLeDiff, Nat.reduceSub, Nat.reduceMul, Int.reduceEq, Nat.reduceBEq]) <;> rfl) (by (try simp only [go_sem, ↓reduceIte, Nat.reduceEqDiff, reduceCtorEq, Nat.reduceAdd, Nat.reduceLeDiff, Nat.reduceSub, Nat.reduceMul, Int.reduceEq, Nat.reduceBEq]) <;> rfl) (spec_toLaneS n.lanes hfew (hs.sub (by repeat (first | (with_reducible exact Hp.sub.refl _) | (with_reducible assumption) | (with_reducible refine sub_set0 ?_ ?_) | exact none_set (by with_reducible assumption) | exact none_set (none_set (by with_reducible assumption)) | exact none_set (none_set (none_set (by with_reducible assumption)))))) fun b4 hb4 => ?_)
  have y3 := ne_set hb4
  have y2 := ne_set (none_set hb4)
  have y1 := ne_set (none_set (none_set hb4))
  have y3' := y3.symm
  have y2' := y2.symm
  have y1' := y1.symm
  have hb40 : H b4 = none := none_set (none_set (none_set hb4))
  simp only [go_sem, ↓reduceIte, Nat.reduceEqDiff, reduceCtorEq, Nat.reduceAdd, Nat.reduceLeDiff, Nat.reduceSub, Nat.reduceMul, Int.reduceEq, Nat.reduceBEq, x1, x2, x3, x1', x2', x3', y1, y2, y3, y1', y2', y3']
  refine retQ_c1 (b := b2) (off := 0) (by (try simp only [go_sem, ↓reduceIte, Nat.reduceEqDiff, reduceCtorEq, Nat.reduceAdd, Nat.reduceLeDiff, Nat.reduceSub, Nat.reduceMul, Int.reduceEq, Nat.reduceBEq]) <;> rfl) (by (try simp only [go_sem, ↓reduceIte, Nat.reduceEqDiff, reduceCtorEq, Nat.reduceAdd, Nat.reduceLeDiff, Nat.reduceSub, Nat.reduceMul, Int.reduceEq, Nat.reduceBEq, x1, x2, x3, x1', x2', x3']) <;> rfl) _ ?_ (hK b4 hb40)
  refine sub_set_at (by repeat (first | (with_reducible exact Hp.sub.refl _) | (with_reducible assumption) | (with_reducible refine sub_set0 ?_ ?_) | exact none_set (by with_reducible assumption) | exact none_set (none_set (by with_reducible assumption)) | exact none_set (none_set (none_set (by with_reducible assumption))))) ?_
  simp only [set_get, y1, y2, y3, y1', y2', y3', ↓reduceIte]
theorem spec_eqLane (x y : LaneD) (H : Hp) (K : Value → Hp → Prop) (hK : K (.bool (decide (x = y))) H) : ACalls Go.Proofs.Try.prog n_laws_eqLane #[.agg (encLane x).toArray, .agg (encLane y).toArray] H K := by
  refine acalls_go fn_laws_eqLane rfl fun hl => ?_
  simp only [c_laws_eqLane]
  rw [laneRow, laneRow]
  refine aw_boxv (by (try simp only [go_sem, ↓reduceIte, Nat.reduceEqDiff, reduceCtorEq, Nat.reduceAdd, Nat.reduceLeDiff, Nat.reduceSub, Nat.reduceMul, Int.reduceEq, Nat.reduceBEq]) <;> rfl) fun b hb => ?_
  refine aw_boxv (by (try simp only [go_sem, ↓reduceIte, Nat.reduceEqDiff, reduceCtorEq, Nat.reduceAdd, Nat.reduceLeDiff, Nat.reduceSub, Nat.reduceMul, Int.reduceEq, Nat.reduceBEq]) <;> rfl) fun b2 hb2 => ?_
  have x1 := ne_set hb2
  have x1' := x1.symm
  have hxy : decide (x = y) = (decide (x.frm = y.frm) && decide (x.to = y.to) && decide (x.least = y.least) && decide (x.most = y.most)) := by
    cases x; cases y; simp [Bool.and_assoc]
  rw [hxy] at hK
  cases e1 : decide (x.frm = y.frm) with
  | false =>
    simp only [go_sem, ↓reduceIte, Nat.reduceEqDiff, reduceCtorEq, Nat.reduceAdd, Nat.reduceLeDiff, Nat.reduceSub, Nat.reduceMul, Int.reduceEq, Nat.reduceBEq, x1, x1', e1]
    exact retQ_r1 (by (try simp only [go_sem, ↓reduceIte, Nat.reduceEqDiff, reduceCtorEq, Nat.reduceAdd, Nat.reduceLeDiff, Nat.reduceSub, Nat.reduceMul, Int.reduceEq, Nat.reduceBEq]) <;> rfl) H (by repeat (first | (with_reducible exact Hp.sub.refl _) | (with_reducible assumption) | (with_reducible refine sub_set0 ?_ ?_) | exact none_set (by with_reducible assumption) | exact none_set (none_set (by with_reducible assumption)) | exact none_set (none_set (none_set (by with_reducible assumption))))) (by simpa [e1] using hK)
  | true =>
    cases e2 : decide (x.to = y.to) with
    | false =>
      simp only [go_sem, ↓reduceIte, Nat.reduceEqDiff, reduceCtorEq, Nat.reduceAdd, Nat.reduceLeDiff, Nat.reduceSub, Nat.reduceMul, Int.reduceEq, Nat.reduceBEq, x1, x1', e1, e2]
      exact retQ_r1 (by (try simp only [go_sem, ↓reduceIte, Nat.reduceEqDiff, reduceCtorEq, Nat.reduceAdd, Nat.reduceLeDiff, Nat.reduceSub, Nat.reduceMul, Int.reduceEq, Nat.reduceBEq]) <;> rfl) H (by repeat (first | (with_reducible exact Hp.sub.refl _) | (with_reducible assumption) | (with_reducible refine sub_set0 ?_ ?_) | exact none_set (by with_reducible assumption) | exact none_set (none_set (by with_reducible assumption)) | exact none_set (none_set (none_set (by with_reducible assumption))))) (by simpa [e1, e2] using hK)
    | true =>
      cases e3 : decide (x.least = y.least) with
      | false =>
        simp only [go_sem, ↓reduceIte, Nat.reduceEqDiff, reduceCtorEq, Nat.reduceAdd, Nat.reduceLeDiff, Nat.reduceSub, Nat.reduceMul, Int.reduceEq, Nat.reduceBEq, x1, x1', e1, e2, e3]
        exact retQ_r1 (by (try simp only [go_sem, ↓reduceIte, Nat.reduceEqDiff, reduceCtorEq, Nat.reduceAdd, Nat.reduceLeDiff, Nat.reduceSub, Nat.reduceMul, Int.reduceEq, Nat.reduceBEq]) <;> rfl) H (by repeat (first | (with_reducible exact Hp.sub.refl _) | (with_reducible assumption) | (with_reducible refine sub_set0 ?_ ?_) | exact none_set (by with_reducible assumption) | exact none_set (none_set (by with_reducible assumption)) | exact none_set (none_set (none_set (by with_reducible assumption))))) (by simpa [e1, e2, e3] using hK)
      | true =>
        cases e4 : decide (x.most = y.most) with
        | false =>
          simp only [go_sem, ↓reduceIte, Nat.reduceEqDiff, reduceCtorEq, Nat.reduceAdd, Nat.reduceLeDiff, Nat.reduceSub, Nat.reduceMul, Int.reduceEq, Nat.reduceBEq, x1, x1', e1, e2, e3, e4]
          exact retQ_r1 (by (try simp only [go_sem, ↓reduceIte, Nat.reduceEqDiff, reduceCtorEq, Nat.reduceAdd, Nat.reduceLeDiff, Nat.reduceSub, Nat.reduceMul, Int.reduceEq, Nat.reduceBEq]) <;> rfl) H (by repeat (first | (with_reducible exact Hp.sub.refl _) | (with_reducible assumption) | (with_reducible refine sub_set0 ?_ ?_) | exact none_set (by with_reducible assumption) | exact none_set (none_set (by with_reducible assumption)) | exact none_set (none_set (none_set (by with_reducible assumption))))) (by simpa [e1, e2, e3, e4] using hK)
        | true =>
          simp only [go_sem, ↓reduceIte, Nat.reduceEqDiff, reduceCtorEq, Nat.reduceAdd, Nat.reduceLeDiff, Nat.reduceSub, Nat.reduceMul, Int.reduceEq, Nat.reduceBEq, x1, x1', e1, e2, e3, e4]
          exact retQ_r1 (by (try simp only [go_sem, ↓reduceIte, Nat.reduceEqDiff, reduceCtorEq, Nat.reduceAdd, Nat.reduceLeDiff, Nat.reduceSub, Nat.reduceMul, Int.reduceEq, Nat.reduceBEq]) <;> rfl) H (by repeat (first | (with_reducible exact Hp.sub.refl _) | (with_reducible assumption) | (with_reducible refine sub_set0 ?_ ?_) | exact none_set (by with_reducible assumption) | exact none_set (none_set (by with_reducible assumption)) | exact none_set (none_set (none_set (by with_reducible assumption))))) (by simpa [e1, e2, e3, e4] using hK)
theorem spec_eqLaneS (xs ys : List LaneD) {v u : Value} {H : Hp} (hs : Sl H 4 v (xs.map encLane)) (hu : Sl H 4 u (ys.map encLane)) {K : Value → Hp → Prop} (hK : K (.bool (decide (xs = ys))) H) : ACalls Go.Proofs.Try.prog n_laws_eqLaneS #[v, u] H K :=
  eq_spec (fe := n_laws_eqLane) fn_laws_eqLaneS encLane (fun _ => rfl) xs ys hs hu (fun x y H K h => spec_eqLane x y H K h) hK
theorem spec_eqNet (n : NetD) {s u : Value} {H : Hp} (hs : Sl H 4 s (n.lanes.map encLane)) (hu : Sl H 4 u (n.lanes.map encLane)) {K : Value → Hp → Prop} (hK : K (.bool true) H) : ACalls Go.Proofs.Try.prog n_laws_eqNet #[.agg (encNet n s).toArray, .agg (encNet n u).toArray] H K := by
  refine acalls_go fn_laws_eqNet rfl fun hl => ?_
  simp only [c_laws_eqNet]
  rw [netRow, netRow]
  refine aw_boxv (by (try simp only [go_sem, ↓reduceIte, Nat.reduceEqDiff, reduceCtorEq, Nat.reduceAdd, Nat.reduceLeDiff, Nat.reduceSub, Nat.reduceMul, Int.reduceEq, Nat.reduceBEq]) <;> rfl) fun b hb => ?_
  refine aw_boxv (by (try simp only [go_sem, ↓reduceIte, Nat.reduceEqDiff, reduceCtorEq, Nat.reduceAdd, Nat.reduceLeDiff, Nat.reduceSub, Nat.reduceMul, Int.reduceEq, Nat.reduceBEq]) <;> rfl) fun b2 hb2 => ?_
  have x1 := ne_set hb2
  have x1' := x1.symm
  have e1 : decide (n.st = n.st) = true := by simp
  have e2 : decide (n.stay = n.stay) = true := by simp
  simp only [go_sem, ↓reduceIte, Nat.reduceEqDiff, reduceCtorEq, Nat.reduceAdd, Nat.reduceLeDiff, Nat.reduceSub, Nat.reduceMul, Int.reduceEq, Nat.reduceBEq, x1, x1', e1, e2]
  refine aw_call (by (try simp only [go_sem, ↓reduceIte, Nat.reduceEqDiff, reduceCtorEq, Nat.reduceAdd, Nat.reduceLeDiff, Nat.reduceSub, Nat.reduceMul, Int.reduceEq, Nat.reduceBEq]) <;> rfl) (by (try simp only [go_sem, ↓reduceIte, Nat.reduceEqDiff, reduceCtorEq, Nat.reduceAdd, Nat.reduceLeDiff, Nat.reduceSub, Nat.reduceMul, Int.reduceEq, Nat.reduceBEq]) <;> rfl) (spec_eqLaneS n.lanes n.lanes (hs.sub (by repeat (first | (with_reducible exact Hp.sub.refl _) | (with_reducible assumption) | (with_reducible refine sub_set0 ?_ ?_) | exact none_set (by with_reducible assumption) | exact none_set (none_set (by with_reducible assumption)) | exact none_set (none_set (none_set (by with_reducible assumption)))))) (hu.sub (by repeat (first | (with_reducible exact Hp.sub.refl _) | (with_reducible assumption) | (with_reducible refine sub_set0 ?_ ?_) | exact none_set (by with_reducible assumption) | exact none_set (none_set (by with_reducible assumption)) | exact none_set (none_set (none_set (by with_reducible assumption)))))) ?_)
  have e3 : decide (n.lanes = n.lanes) = true := by simp
  simp only [go_sem, ↓reduceIte, Nat.reduceEqDiff, reduceCtorEq, Nat.reduceAdd, Nat.reduceLeDiff, Nat.reduceSub, Nat.reduceMul, Int.reduceEq, Nat.reduceBEq, e3]
  exact retQ_r1 (by (try simp only [go_sem, ↓reduceIte, Nat.reduceEqDiff, reduceCtorEq, Nat.reduceAdd, Nat.reduceLeDiff, Nat.reduceSub, Nat.reduceMul, Int.reduceEq, Nat.reduceBEq]) <;> rfl) H (by repeat (first | (with_reducible exact Hp.sub.refl _) | (with_reducible assumption) | (with_reducible refine sub_set0 ?_ ?_) | exact none_set (by with_reducible assumption) | exact none_set (none_set (by with_reducible assumption)) | exact none_set (none_set (none_set (by with_reducible assumption))))) hK
theorem spec_szLaneS (xs : List LaneD) (left : Int) (h0 : 0 ≤ left) (h1 : left ≤ 1048576) {v : Value} {H : Hp} (hlen : vLen false v = some (.int .i64 xs.length)) (hmax : xs.length ≤ 9223372036854775807) {K : Value → Hp → Prop} (hK : K (.int .i64 (if left - xs.length < 0 then -1 else left - xs.length)) H) :
    ACalls Go.Proofs.Try.prog n_laws_szLaneS #[v, .int .i64 left] H K := by
  refine acalls_go fn_laws_szLaneS rfl fun hl => ?_
  simp only [c_laws_szLaneS]
  have w : IntKind.i64.wrap (left - xs.length) = left - xs.length := wrap_i64 (by omega) (by omega)
  by_cases e : left - (xs.length : Int) < 0
  · have ed : decide (left - (xs.length : Int) < 0) = true := by simp [e]
    rw [if_pos e] at hK
    simp only [go_sem, ↓reduceIte, Nat.reduceEqDiff, reduceCtorEq, Nat.reduceAdd, Nat.reduceLeDiff, Nat.reduceSub, Nat.reduceMul, Int.reduceEq, Nat.reduceBEq, hlen, w, ed]
    exact retQ_r1 (by (try simp only [go_sem, ↓reduceIte, Nat.reduceEqDiff, reduceCtorEq, Nat.reduceAdd, Nat.reduceLeDiff, Nat.reduceSub, Nat.reduceMul, Int.reduceEq, Nat.reduceBEq]) <;> rfl) H (by repeat (first | (with_reducible exact Hp.sub.refl _) | (with_reducible assumption) | (with_reducible refine sub_set0 ?_ ?_) | exact none_set (by with_reducible assumption) | exact none_set (none_set (by with_reducible assumption)) | exact none_set (none_set (none_set (by with_reducible assumption))))) hK
  · have ed : decide (left - (xs.length : Int) < 0) = false := by simp; omega
    rw [if_neg e] at hK
    simp only [go_sem, ↓reduceIte, Nat.reduceEqDiff, reduceCtorEq, Nat.reduceAdd, Nat.reduceLeDiff, Nat.reduceSub, Nat.reduceMul, Int.reduceEq, Nat.reduceBEq, hlen, w, ed]
    exact retQ_r1 (by (try simp only [go_sem, ↓reduceIte, Nat.reduceEqDiff, reduceCtorEq, Nat.reduceAdd, Nat.reduceLeDiff, Nat.reduceSub, Nat.reduceMul, Int.reduceEq, Nat.reduceBEq]) <;> rfl) H (by repeat (first | (with_reducible exact Hp.sub.refl _) | (with_reducible assumption) | (with_reducible refine sub_set0 ?_ ?_) | exact none_set (by with_reducible assumption) | exact none_set (none_set (by with_reducible assumption)) | exact none_set (none_set (none_set (by with_reducible assumption))))) hK
theorem spec_szNet (n : NetD) (s : Value) (left : Int) (h0 : 0 ≤ left) (h1 : left ≤ 1048576) {H : Hp} (hlen : vLen false s = some (.int .i64 n.lanes.length)) (hmax : n.lanes.length ≤ 9223372036854775807) {K : Value → Hp → Prop} (hK : K (.int .i64 (if left - n.lanes.length < 0 then -1 else left - n.lanes.length)) H) :
    ACalls Go.Proofs.Try.prog n_laws_szNet #[.agg (encNet n s).toArray, .int .i64 left] H K := by
  refine acalls_go fn_laws_szNet rfl fun hl => ?_
  simp only [c_laws_szNet]
  rw [netRow]
  refine aw_boxv (by (try simp only [go_sem, ↓reduceIte, Nat.reduceEqDiff, reduceCtorEq, Nat.reduceAdd, Nat.reduceLeDiff, Nat.reduceSub, Nat.reduceMul, Int.reduceEq, Nat.reduceBEq]) <;> rfl) fun b hb => ?_
  simp only [go_sem, ↓reduceIte, Nat.reduceEqDiff, reduceCtorEq, Nat.reduceAdd, Nat.reduceLeDiff, Nat.reduceSub, Nat.reduceMul, Int.reduceEq, Nat.reduceBEq]
  refine aw_call (by (try simp only [go_sem, ↓reduceIte, Nat.reduceEqDiff, reduceCtorEq, Nat.reduceAdd, Nat.reduceLeDiff, Nat.reduceSub, Nat.reduceMul, Int.reduceEq, Nat.reduceBEq]) <;> rfl) (by (try simp only [go_sem, ↓reduceIte, Nat.reduceEqDiff, reduceCtorEq, Nat.reduceAdd, Nat.reduceLeDiff, Nat.reduceSub, Nat.reduceMul, Int.reduceEq, Nat.reduceBEq]) <;> rfl) (spec_szLaneS n.lanes left h0 h1 hlen hmax ?_)
  by_cases e : left - (n.lanes.length : Int) < 0
  · rw [if_pos e] at hK ⊢
    have ed : decide ((-1 : Int) < 0) = true := by decide
    simp only [go_sem, ↓reduceIte, Nat.reduceEqDiff, reduceCtorEq, Nat.reduceAdd, Nat.reduceLeDiff, Nat.reduceSub, Nat.reduceMul, Int.reduceEq, Nat.reduceBEq, ed]
    exact retQ_r1 (by (try simp only [go_sem, ↓reduceIte, Nat.reduceEqDiff, reduceCtorEq, Nat.reduceAdd, Nat.reduceLeDiff, Nat.reduceSub, Nat.reduceMul, Int.reduceEq, Nat.reduceBEq]) <;> rfl) H (by repeat (first | (with_reducible exact Hp.sub.refl _) | (with_reducible assumption) | (with_reducible refine sub_set0 ?_ ?_) | exact none_set (by with_reducible assumption) | exact none_set (none_set (by with_reducible assumption)) | exact none_set (none_set (none_set (by with_reducible assumption))))) hK
  · rw [if_neg e] at hK ⊢
    have ed : decide (left - (n.lanes.length : Int) < 0) = false := by simp; omega
    simp only [go_sem, ↓reduceIte, Nat.reduceEqDiff, reduceCtorEq, Nat.reduceAdd, Nat.reduceLeDiff, Nat.reduceSub, Nat.reduceMul, Int.reduceEq, Nat.reduceBEq, ed]
    exact retQ_r1 (by (try simp only [go_sem, ↓reduceIte, Nat.reduceEqDiff, reduceCtorEq, Nat.reduceAdd, Nat.reduceLeDiff, Nat.reduceSub, Nat.reduceMul, Int.reduceEq, Nat.reduceBEq]) <;> rfl) H (by repeat (first | (with_reducible exact Hp.sub.refl _) | (with_reducible assumption) | (with_reducible refine sub_set0 ?_ ?_) | exact none_set (by with_reducible assumption) | exact none_set (none_set (by with_reducible assumption)) | exact none_set (none_set (none_set (by with_reducible assumption))))) hK
end Go.Proofs.Ytonmmfjagkgifaa
