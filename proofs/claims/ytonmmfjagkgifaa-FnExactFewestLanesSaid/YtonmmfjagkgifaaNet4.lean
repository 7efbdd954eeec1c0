/- Nets: marks. -/
import Derived.Test.YtonmmfjagkgifaaNet3
set_option linter.unusedVariables false
set_option linter.unusedSimpArgs false
namespace Go.Proofs.Ytonmmfjagkgifaa
open Go.RowKit
attribute [local go_sem] aw_mv aw_mkf aw_pick aw_bin aw_eqB aw_eqNil aw_eqAgg aw_un aw_conv aw_fa aw_ia aw_iaArr aw_ixArr aw_ixStr aw_fld aw_ext aw_bld aw_nilc aw_slc aw_slcArr aw_slcStr aw_len aw_cap aw_mnx aw_ld aw_st aw_guard_y aw_guard_n aw_nil aw_exit aw_ret aw_cond_t aw_cond_f aw_blk seqQ_norm seqQ_exit seqQ_ret blkQ_norm blkQ_exit_same blkQ_exit_ne blkQ_ret vPick_b vEqB_t vEqB_f vEqNil_sn vEqNil_ss vEqNil_pn vEqNil_ps vUn_neg vUn_not vUn_xor vConv_i vFa_p vIa_s vFld_a vExt_t vNilc_p vLen_s vLen_t vMnx_t vMnx_f abin_add abin_sub abin_mul abin_eql abin_neq abin_lss abin_leq abin_gtr abin_geq abin_and abin_or abin_xor abin_quo abin_rem abin_shl abin_shr abin_seq abin_sne abin_scat ev_tmp ev_const ev_func put_get puto_some puto_none args0_get List.getD_cons_succ List.getD_cons_zero Option.isSome_some Option.getD_some Option.isNone_none Option.isNone_some Option.map_some Option.map_none Value.bool.injEq Value.int.injEq add_mk aload_ptr rd_mk rdObj_row set_get astore_ptr apart_f apart_t List.length_cons List.length_nil List.drop_succ_cons List.drop_zero List.take_succ_cons List.take_zero List.map_cons List.map_nil Option.bind_some Option.bind_none ares_nil ares_tmp oneOf1 Nat.zero_add Nat.add_zero Bool.not_true Bool.not_false ne_eq not_false_eq_true not_true_eq_false decide_true decide_false Bool.true_and Bool.and_true Bool.false_eq_true and_self and_true true_and List.getElem?_cons_zero List.getElem?_cons_succ vc_agg vc_int vc_bool vc_slice aw_chk1 aw_chk2 st_agg st_int st_slice st_ptr one_int one_bool one_slice one_ptr one_str splice_eq aparts_nil aparts_cons afill_nil afill_cons rz0 rz1 rz2 List.all_cons List.all_nil Bool.and_self List.nil_append List.cons_append List.append_nil set_set

/-- One cell of a slice that may be written: whatever is stored, it stays such a slice. -/
theorem Own.wr' {H : Hp} {b ty sz : Nat} {v : Value} {rows : List (List Value)} (h : Own H b ty sz v rows) {k : IntKind} {i : Nat} (hi : i < rows.length) (sub : Nat) (hsub : sub < sz) (u : Value) (hu : valCells u = [u]) (h1 : u.oneCell' = true) :
    ∃ cs' tot rows', vIa sz v (.int k (i : Int)) = some (.pointer (some ⟨b, i * sz, none⟩)) ∧ stObj (H b) (i * sz + sub) 1 u = some (.row true ty cs' tot) ∧ rows'.length = rows.length ∧ Own (H.set b (.row true ty cs' tot)) b ty sz v rows' := by
  obtain ⟨a, cs', tot, h1, h2, h3, h4⟩ := h.wr (k := k) hi sub hsub u hu h1
  exact ⟨cs', tot, _, h1, h3, by simp, h4⟩
theorem spec_markLaneS (k : Int) (m : Nat) (hk : 0 ≤ k) (hkn : k + 4 * m ≤ 4611686018427387904) {v : Value} {H : Hp} {b ty : Nat} {rows : List (List Value)} (hm : rows.length = m) (hs : Own H b ty 4 v rows) {K : Value → Hp → Prop}
    (hK : ∀ H', (∀ c, c ≠ b → H' c = H c) → K (.int .i64 (k + 4 * m)) H') :
    ACalls Go.Proofs.Try.prog n_laws_markLaneS #[v, .int .i64 k] H K := by
  refine acalls_go fn_laws_markLaneS rfl fun hl => ?_
  have hlen := hs.len
  rw [hm] at hlen
  simp only [c_laws_markLaneS]
  simp only [go_sem, ↓reduceIte, Nat.reduceEqDiff, reduceCtorEq, Nat.reduceAdd, Nat.reduceLeDiff, Nat.reduceSub, Nat.reduceMul, Int.reduceEq, Nat.reduceBEq, hlen]
  refine aw_forS hl m v hlen (by omega) 0 (by omega) (fun i T' H' => (∀ c, c ≠ b → H' c = H c) ∧ (∃ rows', rows'.length = m ∧ Own H' b ty 4 v rows') ∧ T' 1 = .int .i64 (k + 4 * i)) H (Hp.sub.refl H) (by (try simp only [go_sem, ↓reduceIte, Nat.reduceEqDiff, reduceCtorEq, Nat.reduceAdd, Nat.reduceLeDiff, Nat.reduceSub, Nat.reduceMul, Int.reduceEq, Nat.reduceBEq]) <;> rfl) (by (try simp only [go_sem, ↓reduceIte, Nat.reduceEqDiff, reduceCtorEq, Nat.reduceAdd, Nat.reduceLeDiff, Nat.reduceSub, Nat.reduceMul, Int.reduceEq, Nat.reduceBEq]) <;> rfl) ⟨fun _ _ => rfl, ⟨rows, hm, hs⟩, by simp only [go_sem, ↓reduceIte, Nat.reduceEqDiff, reduceCtorEq, Nat.reduceAdd, Nat.reduceLeDiff, Nat.reduceSub, Nat.reduceMul, Int.reduceEq, Nat.reduceBEq]; simp⟩ rfl rfl (by decide) (by decide) (by decide) (by decide) ?_ ?_
  · rintro i T' H' hi hl' hoff hTi ⟨ho, ⟨r0, hr0, own0⟩, h1⟩
    have h0 : T' 0 = v := by rw [hoff.get rfl]; simp only [go_sem, ↓reduceIte, Nat.reduceEqDiff, reduceCtorEq, Nat.reduceAdd, Nat.reduceLeDiff, Nat.reduceSub, Nat.reduceMul, Int.reduceEq, Nat.reduceBEq]
    obtain ⟨c1, t1, r1, hia, hs1, hr1, own1⟩ := own0.wr' (k := .i64) (i := i) (by omega) 0 (by omega) (.int .i8 (IntKind.i8.wrap (k + 4 * i))) rfl rfl
    obtain ⟨c2, t2, r2, _, hs2, hr2, own2⟩ := own1.wr' (k := .i64) (i := i) (by omega) 1 (by omega) (.int .i8 (IntKind.i8.wrap (k + 4 * i + 1))) rfl rfl
    obtain ⟨c3, t3, r3, _, hs3, hr3, own3⟩ := own2.wr' (k := .i64) (i := i) (by omega) 2 (by omega) (.int .i16 (IntKind.i16.wrap (k + 4 * i + 1 + 1))) rfl rfl
    obtain ⟨c4, t4, r4, _, hs4, hr4, own4⟩ := own3.wr' (k := .i64) (i := i) (by omega) 3 (by omega) (.int .i16 (IntKind.i16.wrap (k + 4 * i + 1 + 1 + 1))) rfl rfl
    rw [set_set] at own2 own3 own4
    rw [set_same] at hs2 
    rw [set_set, set_same] at hs3
    rw [set_set, set_set, set_same] at hs4
    rw [set_set, set_set] at own4
    rw [Nat.add_zero] at hs1
    generalize AObj.row true ty c1 t1 = R1 at *
    generalize AObj.row true ty c2 t2 = R2 at *
    generalize AObj.row true ty c3 t3 = R3 at *
    generalize AObj.row true ty c4 t4 = R4 at *
    have w1 : IntKind.i64.wrap (k + 4 * i + 1) = k + 4 * i + 1 := wrap_i64 (by omega) (by omega)
    have w2 : IntKind.i64.wrap (k + 4 * i + 1 + 1) = k + 4 * i + 1 + 1 := wrap_i64 (by omega) (by omega)
    have w3 : IntKind.i64.wrap (k + 4 * i + 1 + 1 + 1) = k + 4 * i + 1 + 1 + 1 := wrap_i64 (by omega) (by omega)
    have w4 : IntKind.i64.wrap (k + 4 * i + 1 + 1 + 1 + 1) = k + 4 * ((i + 1 : Nat) : Int) := by rw [wrap_i64 (by omega) (by omega)]; omega
    simp only [go_sem, ↓reduceIte, Nat.reduceEqDiff, reduceCtorEq, Nat.reduceAdd, Nat.reduceLeDiff, Nat.reduceSub, Nat.reduceMul, Int.reduceEq, Nat.reduceBEq, h0, h1, hTi, hia, hs1, hs2, hs3, hs4, w1, w2, w3, w4]
    exact ⟨_, Hp.sub.refl _, fun c hc => by rw [set_ne hc]; exact ho c hc, ⟨r4, by omega, own4⟩, by simp only [go_sem, ↓reduceIte, Nat.reduceEqDiff, reduceCtorEq, Nat.reduceAdd, Nat.reduceLeDiff, Nat.reduceSub, Nat.reduceMul, Int.reduceEq, Nat.reduceBEq]⟩
  · rintro T' H' hl' hoff hTi ⟨ho, hown, h1⟩
    simp only [go_sem, ↓reduceIte, Nat.reduceEqDiff, reduceCtorEq, Nat.reduceAdd, Nat.reduceLeDiff, Nat.reduceSub, Nat.reduceMul, Int.reduceEq, Nat.reduceBEq, h1]
    exact retQ_r1 (by (try simp only [go_sem, ↓reduceIte, Nat.reduceEqDiff, reduceCtorEq, Nat.reduceAdd, Nat.reduceLeDiff, Nat.reduceSub, Nat.reduceMul, Int.reduceEq, Nat.reduceBEq]) <;> rfl) _ (Hp.sub.refl _) (hK H' ho)
theorem spec_markNet (n : NetD) (s : Value) (k : Int) (m : Nat) (hk : 0 ≤ k) (hkn : k + 4 * m ≤ 4611686018427387904) {H : Hp} {b ty : Nat} {rows : List (List Value)} (hm : rows.length = m) (hs : Own H b ty 4 s rows) {K : Value → Hp → Prop}
    (hK : ∀ H', (∀ c, c ≠ b → H' c = H c) → K (.int .i64 (k + 4 * m)) H') :
    ACalls Go.Proofs.Try.prog n_laws_markNet #[.agg (encNet n s).toArray, .int .i64 k] H K := by
  refine acalls_go fn_laws_markNet rfl fun hl => ?_
  simp only [c_laws_markNet]
  rw [netRow]
  refine aw_boxv (by (try simp only [go_sem, ↓reduceIte, Nat.reduceEqDiff, reduceCtorEq, Nat.reduceAdd, Nat.reduceLeDiff, Nat.reduceSub, Nat.reduceMul, Int.reduceEq, Nat.reduceBEq]) <;> rfl) fun b2 hb2 => ?_
  obtain ⟨o, eo⟩ := hs.blk
  have hne := some_ne eo hb2
  simp only [go_sem, ↓reduceIte, Nat.reduceEqDiff, reduceCtorEq, Nat.reduceAdd, Nat.reduceLeDiff, Nat.reduceSub, Nat.reduceMul, Int.reduceEq, Nat.reduceBEq]
  refine aw_call (by (try simp only [go_sem, ↓reduceIte, Nat.reduceEqDiff, reduceCtorEq, Nat.reduceAdd, Nat.reduceLeDiff, Nat.reduceSub, Nat.reduceMul, Int.reduceEq, Nat.reduceBEq]) <;> rfl) (by (try simp only [go_sem, ↓reduceIte, Nat.reduceEqDiff, reduceCtorEq, Nat.reduceAdd, Nat.reduceLeDiff, Nat.reduceSub, Nat.reduceMul, Int.reduceEq, Nat.reduceBEq]) <;> rfl) (spec_markLaneS k m hk hkn hm (hs.off (set_ne hne)) fun H' hH' => ?_)
  simp only [go_sem, ↓reduceIte, Nat.reduceEqDiff, reduceCtorEq, Nat.reduceAdd, Nat.reduceLeDiff, Nat.reduceSub, Nat.reduceMul, Int.reduceEq, Nat.reduceBEq]
  refine retQ_r1 (by (try simp only [go_sem, ↓reduceIte, Nat.reduceEqDiff, reduceCtorEq, Nat.reduceAdd, Nat.reduceLeDiff, Nat.reduceSub, Nat.reduceMul, Int.reduceEq, Nat.reduceBEq]) <;> rfl) (fun c => if c = b then H' c else H c) ?_ (hK _ fun c hc => if_neg hc)
  intro c o' hc
  simp only at hc
  by_cases e : c = b
  · rw [if_pos e] at hc; exact hc
  · rw [if_neg e] at hc
    rw [hH' c e, set_ne (by intro e2; subst e2; rw [hb2] at hc; cases hc)]
    exact hc
end Go.Proofs.Ytonmmfjagkgifaa
