/- Nets: whether one can go. -/
import Derived.Test.YtonmmfjagkgifaaNet13
set_option linter.unusedVariables false
set_option linter.unusedSimpArgs false
namespace Go.Proofs.Ytonmmfjagkgifaa
open Go.RowKit
attribute [local go_sem] aw_mv aw_mkf aw_pick aw_bin aw_eqB aw_eqNil aw_eqAgg aw_un aw_conv aw_fa aw_ia aw_iaArr aw_ixArr aw_ixStr aw_fld aw_ext aw_bld aw_nilc aw_slc aw_slcArr aw_slcStr aw_len aw_cap aw_mnx aw_ld aw_st aw_guard_y aw_guard_n aw_nil aw_exit aw_ret aw_cond_t aw_cond_f aw_blk seqQ_norm seqQ_exit seqQ_ret blkQ_norm blkQ_exit_same blkQ_exit_ne blkQ_ret vPick_b vEqB_t vEqB_f vEqNil_sn vEqNil_ss vEqNil_pn vEqNil_ps vUn_neg vUn_not vUn_xor vConv_i vFa_p vIa_s vFld_a vExt_t vNilc_p vLen_s vLen_t vMnx_t vMnx_f abin_add abin_sub abin_mul abin_eql abin_neq abin_lss abin_leq abin_gtr abin_geq abin_and abin_or abin_xor abin_quo abin_rem abin_shl abin_shr abin_seq abin_sne abin_scat ev_tmp ev_const ev_func put_get puto_some puto_none args0_get List.getD_cons_succ List.getD_cons_zero Option.isSome_some Option.getD_some Option.isNone_none Option.isNone_some Option.map_some Option.map_none Value.bool.injEq Value.int.injEq add_mk aload_ptr rd_mk rdObj_row set_get astore_ptr apart_f apart_t List.length_cons List.length_nil List.drop_succ_cons List.drop_zero List.take_succ_cons List.take_zero List.map_cons List.map_nil Option.bind_some Option.bind_none ares_nil ares_tmp oneOf1 Nat.zero_add Nat.add_zero Bool.not_true Bool.not_false ne_eq not_false_eq_true not_true_eq_false decide_true decide_false Bool.true_and Bool.and_true Bool.false_eq_true and_self and_true true_and List.getElem?_cons_zero List.getElem?_cons_succ vc_agg vc_int vc_bool vc_slice aw_chk1 aw_chk2 st_agg st_int st_slice st_ptr one_int one_bool one_slice one_ptr one_str splice_eq aparts_nil aparts_cons afill_nil afill_cons rz0 rz1 rz2 List.all_cons List.all_nil Bool.and_self List.nil_append List.cons_append List.append_nil set_set

theorem spec_canGo (n : NetD) (s : Value) (hv : validNet n = true) (a0 b0 : Int × Int) (st hr st' hr' : Nat) (e1 : a0.1 = st) (e2 : a0.2 = hr) (h8 : st < 8) (h3 : hr ≤ 300) (e1' : b0.1 = st') (e2' : b0.2 = hr') (h8' : st' < 8) (h3' : hr' ≤ 300)
    {H : Hp} (hs : Sl H 4 s (n.lanes.map encLane)) (K : Value → Hp → Prop) (hK : ∀ r : Bool, (r = true ↔ Reach n (st * 301 + hr) (st' * 301 + hr')) → K (.bool r) H) :
    ACalls Go.Proofs.Try.prog n_impl_Net_canGo #[.agg (encNet n s).toArray, .agg (encScan a0).toArray, .agg (encScan b0).toArray] H K := by
  refine acalls_go fn_impl_Net_canGo rfl fun hl => ?_
  simp only [c_impl_Net_canGo, encScan]
  rw [netRow]
  refine aw_boxv (by (try simp only [go_sem, ↓reduceIte, Nat.reduceEqDiff, reduceCtorEq, Nat.reduceAdd, Nat.reduceLeDiff, Nat.reduceSub, Nat.reduceMul, Int.reduceEq, Nat.reduceBEq]) <;> rfl) fun b3 hb3 => ?_
  refine aw_boxv (by (try simp only [go_sem, ↓reduceIte, Nat.reduceEqDiff, reduceCtorEq, Nat.reduceAdd, Nat.reduceLeDiff, Nat.reduceSub, Nat.reduceMul, Int.reduceEq, Nat.reduceBEq]) <;> rfl) fun b4 hb4 => ?_
  refine aw_boxv (by (try simp only [go_sem, ↓reduceIte, Nat.reduceEqDiff, reduceCtorEq, Nat.reduceAdd, Nat.reduceLeDiff, Nat.reduceSub, Nat.reduceMul, Int.reduceEq, Nat.reduceBEq]) <;> rfl) fun b5 hb5 => ?_
  have x1 := ne_set hb4
  have x2 := ne_set hb5
  have x3 := ne_set (none_set hb5)
  simp only [go_sem, ↓reduceIte, Nat.reduceEqDiff, reduceCtorEq, Nat.reduceAdd, Nat.reduceLeDiff, Nat.reduceSub, Nat.reduceMul, Int.reduceEq, Nat.reduceBEq, x1, x2, x3, x1.symm, x2.symm, x3.symm]
  refine aw_call (by (try simp only [go_sem, ↓reduceIte, Nat.reduceEqDiff, reduceCtorEq, Nat.reduceAdd, Nat.reduceLeDiff, Nat.reduceSub, Nat.reduceMul, Int.reduceEq, Nat.reduceBEq]) <;> rfl) (by (try simp only [go_sem, ↓reduceIte, Nat.reduceEqDiff, reduceCtorEq, Nat.reduceAdd, Nat.reduceLeDiff, Nat.reduceSub, Nat.reduceMul, Int.reduceEq, Nat.reduceBEq]) <;> rfl) (spec_all n s hv a0 st hr e1 e2 h8 h3 (hs.sub (sub_set hb5 (sub_set hb4 (sub_set hb3 (Hp.sub.refl _))))) _ fun g hg => ?_)
  have p1 := gc_ixr 8 301 2408 g .i8 b0.1 rfl (by omega)
  have p2 := gc_ix1 301 (fun i => g (b0.1.toNat * 301 + i)) .i16 b0.2 (by omega)
  simp only [go_sem, ↓reduceIte, Nat.reduceEqDiff, reduceCtorEq, Nat.reduceAdd, Nat.reduceLeDiff, Nat.reduceSub, Nat.reduceMul, Int.reduceEq, Nat.reduceBEq, x1, x2, x3, x1.symm, x2.symm, x3.symm, p1, p2]
  refine retQ_r1 (by (try simp only [go_sem, ↓reduceIte, Nat.reduceEqDiff, reduceCtorEq, Nat.reduceAdd, Nat.reduceLeDiff, Nat.reduceSub, Nat.reduceMul, Int.reduceEq, Nat.reduceBEq]) <;> rfl) H (sub_set hb5 (sub_set hb4 (sub_set hb3 (Hp.sub.refl _)))) (hK _ ?_)
  rw [show b0.1.toNat = st' by omega, show b0.2.toNat = hr' by omega]
  exact hg _ (by omega)
end Go.Proofs.Ytonmmfjagkgifaa
