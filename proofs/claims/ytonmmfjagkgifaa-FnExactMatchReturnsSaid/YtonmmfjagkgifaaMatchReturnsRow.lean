/- Printed by lawrow.py, a program of this work: the law MatchReturns holds, for every input. -/
import Derived.Test.YtonmmfjagkgifaaMat5
import Derived.Test.YtonmmfjagkgifaaArgO
import Derived.Test.YtonmmfjagkgifaaGW4
import Derived.Test.YtonmmfjagkgifaaCodeF
set_option linter.unusedVariables false
set_option linter.unusedSimpArgs false
namespace Go.Proofs.Ytonmmfjagkgifaa
open Go.ChangeShapes Go.WideShapes Go.ChangeAt Go.RowKit
attribute [local go_sem] aw_mv aw_mkf aw_pick aw_bin aw_eqB aw_eqNil aw_eqAgg aw_un aw_conv aw_fa aw_ia aw_iaArr aw_ixArr aw_ixStr aw_fld aw_ext aw_bld aw_nilc aw_slc aw_slcArr aw_slcStr aw_len aw_cap aw_mnx aw_ld aw_st aw_guard_y aw_guard_n aw_nil aw_exit aw_ret aw_cond_t aw_cond_f aw_blk seqQ_norm seqQ_exit seqQ_ret blkQ_norm blkQ_exit_same blkQ_exit_ne blkQ_ret vPick_b vEqB_t vEqB_f vEqNil_sn vEqNil_ss vEqNil_pn vEqNil_ps vUn_neg vUn_not vUn_xor vConv_i vFa_p vIa_s vFld_a vExt_t vNilc_p vLen_s vLen_t vMnx_t vMnx_f abin_add abin_sub abin_mul abin_eql abin_neq abin_lss abin_leq abin_gtr abin_geq abin_and abin_or abin_xor abin_quo abin_rem abin_shl abin_shr abin_seq abin_sne abin_scat ev_tmp ev_const ev_func put_get puto_some puto_none args0_get List.getD_cons_succ List.getD_cons_zero Option.isSome_some Option.getD_some Option.isNone_none Option.isNone_some Option.map_some Option.map_none Value.bool.injEq Value.int.injEq add_mk aload_ptr rd_mk rdObj_row set_get astore_ptr apart_f apart_t List.length_cons List.length_nil List.drop_succ_cons List.drop_zero List.take_succ_cons List.take_zero List.map_cons List.map_nil Option.bind_some Option.bind_none ares_nil ares_tmp oneOf1 Nat.zero_add Nat.add_zero Bool.not_true Bool.not_false ne_eq not_false_eq_true not_true_eq_false decide_true decide_false Bool.true_and Bool.and_true Bool.false_eq_true and_self and_true true_and List.getElem?_cons_zero List.getElem?_cons_succ vc_agg vc_int vc_bool vc_slice aw_chk1 aw_chk2 st_agg st_int st_slice st_ptr one_int one_bool one_slice one_ptr one_str splice_eq aparts_nil aparts_cons afill_nil afill_cons rz0 rz1 rz2 List.all_cons List.all_nil Bool.and_self List.nil_append List.cons_append List.append_nil set_set lpQ_exit lpQ_ret vBld_def aw_guard_u abin_shr1 abin_shl1 st_bool st_str vc_str vc_ptr joinQ_exit joinQ_ret rngQ_cont rngQ_brk rngQ_out rngQ_ret

theorem kz_MatchReturns_Order {va : Value} {n : Nat} (hn : vLen false va = some (.int .i64 n)) (hm : n ≤ 9223372036854775807) {left : Int} (h0 : 0 ≤ left) (h1 : left ≤ 1048576) {H : Hp} {K : Value → Hp → Prop} (hK : K (.int .i64 (if left - n < 0 then -1 else left - n)) H) :
    ACalls Go.Proofs.Try.prog n_laws_szOrderS #[va, .int .i64 left] H K := by
  refine acalls_go fn_laws_szOrderS rfl fun hl => ?_
  simp only [c_laws_szOrderS]
  have hL := Loc.nil H
  (try simp only [go_sem, ↓reduceIte, Nat.reduceEqDiff, reduceCtorEq, Nat.reduceAdd, Nat.reduceLeDiff, Nat.reduceSub, Nat.reduceMul, Int.reduceEq, Nat.reduceBEq, hn])
  have e := w64_id (n := left - n) (by omega) (by omega)
  cases hc : (decide (IntKind.i64.wrap (left - (n : Int)) < 0)) with
  | true =>
    (try simp only [go_sem, ↓reduceIte, Nat.reduceEqDiff, reduceCtorEq, Nat.reduceAdd, Nat.reduceLeDiff, Nat.reduceSub, Nat.reduceMul, Int.reduceEq, Nat.reduceBEq, hn, hc])
    rw [e, decide_eq_true_eq] at hc
    rw [if_pos hc] at hK
    exact retQ_r1 (by (try simp only [go_sem, ↓reduceIte, Nat.reduceEqDiff, reduceCtorEq, Nat.reduceAdd, Nat.reduceLeDiff, Nat.reduceSub, Nat.reduceMul, Int.reduceEq, Nat.reduceBEq, hn, hc]) <;> rfl) H hL.sub hK
  | false =>
    (try simp only [go_sem, ↓reduceIte, Nat.reduceEqDiff, reduceCtorEq, Nat.reduceAdd, Nat.reduceLeDiff, Nat.reduceSub, Nat.reduceMul, Int.reduceEq, Nat.reduceBEq, hn, hc])
    rw [← e, if_neg (by rw [decide_eq_false_iff_not] at hc; exact hc)] at hK
    exact retQ_r1 (by (try simp only [go_sem, ↓reduceIte, Nat.reduceEqDiff, reduceCtorEq, Nat.reduceAdd, Nat.reduceLeDiff, Nat.reduceSub, Nat.reduceMul, Int.reduceEq, Nat.reduceBEq, hn, hc]) <;> rfl) H hL.sub hK
theorem kz_MatchReturns_Return {va : Value} {n : Nat} (hn : vLen false va = some (.int .i64 n)) (hm : n ≤ 9223372036854775807) {left : Int} (h0 : 0 ≤ left) (h1 : left ≤ 1048576) {H : Hp} {K : Value → Hp → Prop} (hK : K (.int .i64 (if left - n < 0 then -1 else left - n)) H) :
    ACalls Go.Proofs.Try.prog n_laws_szReturnS #[va, .int .i64 left] H K := by
  refine acalls_go fn_laws_szReturnS rfl fun hl => ?_
  simp only [c_laws_szReturnS]
  have hL := Loc.nil H
  (try simp only [go_sem, ↓reduceIte, Nat.reduceEqDiff, reduceCtorEq, Nat.reduceAdd, Nat.reduceLeDiff, Nat.reduceSub, Nat.reduceMul, Int.reduceEq, Nat.reduceBEq, hn])
  have e := w64_id (n := left - n) (by omega) (by omega)
  cases hc : (decide (IntKind.i64.wrap (left - (n : Int)) < 0)) with
  | true =>
    (try simp only [go_sem, ↓reduceIte, Nat.reduceEqDiff, reduceCtorEq, Nat.reduceAdd, Nat.reduceLeDiff, Nat.reduceSub, Nat.reduceMul, Int.reduceEq, Nat.reduceBEq, hn, hc])
    rw [e, decide_eq_true_eq] at hc
    rw [if_pos hc] at hK
    exact retQ_r1 (by (try simp only [go_sem, ↓reduceIte, Nat.reduceEqDiff, reduceCtorEq, Nat.reduceAdd, Nat.reduceLeDiff, Nat.reduceSub, Nat.reduceMul, Int.reduceEq, Nat.reduceBEq, hn, hc]) <;> rfl) H hL.sub hK
  | false =>
    (try simp only [go_sem, ↓reduceIte, Nat.reduceEqDiff, reduceCtorEq, Nat.reduceAdd, Nat.reduceLeDiff, Nat.reduceSub, Nat.reduceMul, Int.reduceEq, Nat.reduceBEq, hn, hc])
    rw [← e, if_neg (by rw [decide_eq_false_iff_not] at hc; exact hc)] at hK
    exact retQ_r1 (by (try simp only [go_sem, ↓reduceIte, Nat.reduceEqDiff, reduceCtorEq, Nat.reduceAdd, Nat.reduceLeDiff, Nat.reduceSub, Nat.reduceMul, Int.reduceEq, Nat.reduceBEq, hn, hc]) <;> rfl) H hL.sub hK
theorem kl_MatchReturns {v0 : Value} {n0 : Nat} (hn0 : vLen false v0 = some (.int .i64 n0)) (hm0 : n0 ≤ 9223372036854775807) {v1 : Value} {n1 : Nat} (hn1 : vLen false v1 = some (.int .i64 n1)) (hm1 : n1 ≤ 9223372036854775807) {d2 : Int} (hlong : 1048576 < n0 + n1) {H : Hp} {K : Value → Hp → Prop} (hK : K (.bool true) H) : ACalls Go.Proofs.Try.prog n_laws_FnExactMatchReturns #[v0, v1, Value.int .i64 d2] H K := by
  refine acalls_go fn_laws_FnExactMatchReturns rfl fun hl => ?_
  simp only [c_laws_FnExactMatchReturns]
  have hL := Loc.nil H
  (try simp only [go_sem, ↓reduceIte, Nat.reduceEqDiff, reduceCtorEq, Nat.reduceAdd, Nat.reduceLeDiff, Nat.reduceSub, Nat.reduceMul, Int.reduceEq, Nat.reduceBEq])
  have hng : decide ((-1 : Int) < 0) = true := by decide
  refine aw_call (by (try simp only [go_sem, ↓reduceIte, Nat.reduceEqDiff, reduceCtorEq, Nat.reduceAdd, Nat.reduceLeDiff, Nat.reduceSub, Nat.reduceMul, Int.reduceEq, Nat.reduceBEq, hng]) <;> rfl) (by (try simp only [go_sem, ↓reduceIte, Nat.reduceEqDiff, reduceCtorEq, Nat.reduceAdd, Nat.reduceLeDiff, Nat.reduceSub, Nat.reduceMul, Int.reduceEq, Nat.reduceBEq, hng]) <;> rfl) (kz_MatchReturns_Order hn0 hm0 (left := 1048576) (by omega) (by omega) ?_)
  (try simp only [go_sem, ↓reduceIte, Nat.reduceEqDiff, reduceCtorEq, Nat.reduceAdd, Nat.reduceLeDiff, Nat.reduceSub, Nat.reduceMul, Int.reduceEq, Nat.reduceBEq, hng])
  by_cases hh0 : 1048576 - (n0 : Int) < 0
  · rw [if_pos hh0]
    (try simp only [go_sem, ↓reduceIte, Nat.reduceEqDiff, reduceCtorEq, Nat.reduceAdd, Nat.reduceLeDiff, Nat.reduceSub, Nat.reduceMul, Int.reduceEq, Nat.reduceBEq, hng])
    exact retQ_r1 (by (try simp only [go_sem, ↓reduceIte, Nat.reduceEqDiff, reduceCtorEq, Nat.reduceAdd, Nat.reduceLeDiff, Nat.reduceSub, Nat.reduceMul, Int.reduceEq, Nat.reduceBEq, hng]) <;> rfl) H hL.sub hK
  · rw [if_neg hh0]
    have hc0 : decide (1048576 - (n0 : Int) < 0) = false := by rw [decide_eq_false_iff_not]; exact hh0
    (try simp only [go_sem, ↓reduceIte, Nat.reduceEqDiff, reduceCtorEq, Nat.reduceAdd, Nat.reduceLeDiff, Nat.reduceSub, Nat.reduceMul, Int.reduceEq, Nat.reduceBEq, hng, hc0])
    refine aw_call (by (try simp only [go_sem, ↓reduceIte, Nat.reduceEqDiff, reduceCtorEq, Nat.reduceAdd, Nat.reduceLeDiff, Nat.reduceSub, Nat.reduceMul, Int.reduceEq, Nat.reduceBEq, hng, hc0]) <;> rfl) (by (try simp only [go_sem, ↓reduceIte, Nat.reduceEqDiff, reduceCtorEq, Nat.reduceAdd, Nat.reduceLeDiff, Nat.reduceSub, Nat.reduceMul, Int.reduceEq, Nat.reduceBEq, hng, hc0]) <;> rfl) (kz_MatchReturns_Return hn1 hm1 (left := (1048576 - (n0 : Int))) (by omega) (by omega) ?_)
    (try simp only [go_sem, ↓reduceIte, Nat.reduceEqDiff, reduceCtorEq, Nat.reduceAdd, Nat.reduceLeDiff, Nat.reduceSub, Nat.reduceMul, Int.reduceEq, Nat.reduceBEq, hng, hc0])
    by_cases hh1 : (1048576 - (n0 : Int)) - (n1 : Int) < 0
    · rw [if_pos hh1]
      (try simp only [go_sem, ↓reduceIte, Nat.reduceEqDiff, reduceCtorEq, Nat.reduceAdd, Nat.reduceLeDiff, Nat.reduceSub, Nat.reduceMul, Int.reduceEq, Nat.reduceBEq, hng, hc0])
      exact retQ_r1 (by (try simp only [go_sem, ↓reduceIte, Nat.reduceEqDiff, reduceCtorEq, Nat.reduceAdd, Nat.reduceLeDiff, Nat.reduceSub, Nat.reduceMul, Int.reduceEq, Nat.reduceBEq, hng, hc0]) <;> rfl) H hL.sub hK
    · omega
set_option maxRecDepth 100000 in
theorem MatchReturns_lifted (os : Os) (started : os.Started) (H : Type) (enc : TypeId × Value → H) :
    ReturnsInHanded {} Go.Proofs.Try.checked os 6 .any (Rows.fnExactMatchReturnsSpec.pre6 enc Go.Proofs.Try.prog Go.Proofs.Try.f6 Rows.fnExactMatchReturnsRow.domain false) (Rows.fnExactMatchReturnsSpec.post enc Go.Proofs.Try.prog Go.Proofs.Try.f6 false true false false) := by
  refine returnsInHanded_of_change (C := Go.Proofs.Try.checked) own00 started (by kernel_rfl) Go.Proofs.Try.func6
    (ChangeSpec.witness6 (enc := enc) (C := Go.Proofs.Try.checked) false ⟨#[], #[.slice none 0 0, .slice none 0 0, .int .i64 0], []⟩ 8 (by kernel_rfl) (by kernel_rfl) (by kernel_rfl) (by kernel_rfl)) ?_
  intro W base args ds gs before hval0 hW hcnd _
  have hval : ∀ (j : Nat) t v, Go.Proofs.Try.f6.params[j]? = some t → args[j]? = some v → Value.okWide Go.Proofs.Try.prog W .any base t v := hval0
  have hW' := hW
  obtain ⟨p, q, hA0, hV, rfl, hfz, hnd⟩ := hW
  have hA : DataW.TrodAll enc Go.Proofs.Try.prog W 0 (fun _ => true) true Go.Proofs.Try.f6.params.toList args.toList ds p := hA0
  rw [Go.Proofs.Try.params6] at hA hval
  obtain ⟨v0, v1, v2, e0, e1, e2, p0, p1, p2, rfl, rfl, rfl, h0, h1, h2⟩ := trodAll_three hA
  obtain ⟨ad0, ln0, cp0, rfl⟩ := okWide_slice Go.Proofs.Try.underlying44 (hval 0 44 v0 rfl rfl)
  obtain ⟨f0, g0⟩ := h0
  obtain ⟨x0, len0, max0, sl0, ok0⟩ := arg_Order g0
  obtain ⟨ad1, ln1, cp1, rfl⟩ := okWide_slice Go.Proofs.Try.underlying45 (hval 1 45 v1 rfl rfl)
  obtain ⟨f1, g1⟩ := h1
  obtain ⟨x1, len1, max1, sl1, ok1⟩ := arg_Return g1
  obtain ⟨x2, rfl⟩ := okWide_int Go.Proofs.Try.underlying2 (hval 2 2 v2 rfl rfl)
  obtain ⟨f2, g2⟩ := h2
  obtain ⟨y2, hy2, ok2⟩ := int00 Go.Proofs.Try.underlying2 g2
  cases hy2
  have hcall : ACalls Go.Proofs.Try.prog n_laws_FnExactMatchReturns #[.slice ad0 ln0 cp0, .slice ad1 ln1 cp1, .int .i64 x2] (H00 W) (fun v _ => v = .bool true) := by
    by_cases hs : 1048576 < x0.length + x1.length
    · exact kl_MatchReturns len0 max0 len1 max1 hs rfl
    · exact k_laws_FnExactMatchReturns (ok_law_MatchReturns ok0 ok1 ok2) (sl0 (by omega)) (sl1 (by omega)) fun r hr => by rw [show r = true from hr]
  refine (acalls_below (Q := fun v => v = .bool true) hcall).mono fun e W' hr => ?_
  obtain ⟨r, rfl, rfl, hbl⟩ := hr
  refine ⟨_, rfl, post_true laid00 hW' hbl (tb := 4) (by kernel_rfl) Go.Proofs.Try.underlying4 ?_ rfl ?_⟩
  · intro ds hds
    rw [Go.Proofs.Try.params6] at hds
    obtain ⟨x0, x1, x2, rfl⟩ := len3 hds
    exact ⟨rfl, rfl, rfl⟩
  · intro t ht
    rw [Go.Proofs.Try.params6] at ht
    simp only [List.mem_cons, List.not_mem_nil, or_false] at ht
    rcases ht with rfl | rfl | rfl <;> exact ⟨by kernel_rfl, of_decide_eq_true (by kernel_rfl)⟩
theorem MatchReturns_holds : Rows.FnExactMatchReturnsSaid :=
  OpenClaim.holds_of_wide 6 Go.Proofs.Try.f6 rfl rfl rfl rfl rfl rfl rfl ⟨rfl, rfl, rfl, rfl, rfl⟩ rfl rfl rfl rfl rfl (by kernel_rfl) Go.Proofs.Try.func6 (by kernel_rfl)
    (of_decide_eq_true (by kernel_rfl)) (by unfold Func.isWrapper; first | (rw [if_pos (by decide +kernel)]; kernel_rfl) | (rw [if_neg (by decide +kernel)]; exact ⟨rfl, rfl⟩))
    (fun os started H enc _ => MatchReturns_lifted os started H enc)
#print axioms MatchReturns_holds
end Go.Proofs.Ytonmmfjagkgifaa
