/- Printed by gen.py, a program of this work: GW -/
import Derived.Test.YtonmmfjagkgifaaGT
import Derived.Test.YtonmmfjagkgifaaCodeF
set_option linter.unusedVariables false
set_option linter.unusedSimpArgs false
namespace Go.Proofs.Ytonmmfjagkgifaa
open Go.RowKit
attribute [local go_sem] aw_mv aw_mkf aw_pick aw_bin aw_eqB aw_eqNil aw_eqAgg aw_un aw_conv aw_fa aw_ia aw_iaArr aw_ixArr aw_ixStr aw_fld aw_ext aw_bld aw_nilc aw_slc aw_slcArr aw_slcStr aw_len aw_cap aw_mnx aw_ld aw_st aw_guard_y aw_guard_n aw_nil aw_exit aw_ret aw_cond_t aw_cond_f aw_blk seqQ_norm seqQ_exit seqQ_ret blkQ_norm blkQ_exit_same blkQ_exit_ne blkQ_ret vPick_b vEqB_t vEqB_f vEqNil_sn vEqNil_ss vEqNil_pn vEqNil_ps vUn_neg vUn_not vUn_xor vConv_i vFa_p vIa_s vFld_a vExt_t vNilc_p vLen_s vLen_t vMnx_t vMnx_f abin_add abin_sub abin_mul abin_eql abin_neq abin_lss abin_leq abin_gtr abin_geq abin_and abin_or abin_xor abin_quo abin_rem abin_shl abin_shr abin_seq abin_sne abin_scat ev_tmp ev_const ev_func put_get puto_some puto_none args0_get List.getD_cons_succ List.getD_cons_zero Option.isSome_some Option.getD_some Option.isNone_none Option.isNone_some Option.map_some Option.map_none Value.bool.injEq Value.int.injEq add_mk aload_ptr rd_mk rdObj_row set_get astore_ptr apart_f apart_t List.length_cons List.length_nil List.drop_succ_cons List.drop_zero List.take_succ_cons List.take_zero List.map_cons List.map_nil Option.bind_some Option.bind_none ares_nil ares_tmp oneOf1 Nat.zero_add Nat.add_zero Bool.not_true Bool.not_false ne_eq not_false_eq_true not_true_eq_false decide_true decide_false Bool.true_and Bool.and_true Bool.false_eq_true and_self and_true true_and List.getElem?_cons_zero List.getElem?_cons_succ vc_agg vc_int vc_bool vc_slice aw_chk1 aw_chk2 st_agg st_int st_slice st_ptr one_int one_bool one_slice one_ptr one_str splice_eq aparts_nil aparts_cons afill_nil afill_cons rz0 rz1 rz2 List.all_cons List.all_nil Bool.and_self List.nil_append List.cons_append List.append_nil set_set lpQ_exit lpQ_ret vBld_def aw_guard_u abin_shr1 abin_shl1 st_bool st_str vc_str vc_ptr joinQ_exit joinQ_ret rngQ_cont rngQ_brk rngQ_out rngQ_ret
def w_laws_szOrderS (a_ : (List S_Order)) (left_ : Int) (Q : Int → Prop) : Prop := a_.length ≤ 1152921504606846976 → (((decide ((IntKind.i64.wrap (left_ - (a_.length : Int))) < 0)) = true → Q (-1)) ∧ ((decide ((IntKind.i64.wrap (left_ - (a_.length : Int))) < 0)) = false → Q (IntKind.i64.wrap (left_ - (a_.length : Int)))))
theorem k_laws_szOrderS {a_ : (List S_Order)} {left_ : Int} {Q : Int → Prop} (h : w_laws_szOrderS a_ left_ Q) {H : Hp} {va_ : Value} (ra_ : SlR R_Order 5 H a_ va_) {K : Value → Hp → Prop} (hK : ∀ (r0 : Int), Q r0 → K (Value.int .i64 r0) H) :
    ACalls Go.Proofs.Try.prog n_laws_szOrderS #[va_, Value.int .i64 left_] H K := by
  unfold w_laws_szOrderS at h
  have h := h ra_.le
  refine acalls_go fn_laws_szOrderS rfl fun hl => ?_
  simp only [c_laws_szOrderS]
  have hL := Loc.nil H
  have hn1 := ra_.len
  (try simp only [go_sem, ↓reduceIte, Nat.reduceEqDiff, reduceCtorEq, Nat.reduceAdd, Nat.reduceLeDiff, Nat.reduceSub, Nat.reduceMul, Int.reduceEq, Nat.reduceBEq, hn1])
  cases hc2 : (decide ((IntKind.i64.wrap (left_ - (a_.length : Int))) < 0)) with
  | true =>
    have h := h.1 hc2
    (try simp only [go_sem, ↓reduceIte, Nat.reduceEqDiff, reduceCtorEq, Nat.reduceAdd, Nat.reduceLeDiff, Nat.reduceSub, Nat.reduceMul, Int.reduceEq, Nat.reduceBEq, hn1, hc2])
    exact retQ_r1 (by (try simp only [go_sem, ↓reduceIte, Nat.reduceEqDiff, reduceCtorEq, Nat.reduceAdd, Nat.reduceLeDiff, Nat.reduceSub, Nat.reduceMul, Int.reduceEq, Nat.reduceBEq, hn1, hc2]) <;> rfl) H hL.sub (hK _ h)
  | false =>
    have h := h.2 hc2
    (try simp only [go_sem, ↓reduceIte, Nat.reduceEqDiff, reduceCtorEq, Nat.reduceAdd, Nat.reduceLeDiff, Nat.reduceSub, Nat.reduceMul, Int.reduceEq, Nat.reduceBEq, hn1, hc2])
    exact retQ_r1 (by (try simp only [go_sem, ↓reduceIte, Nat.reduceEqDiff, reduceCtorEq, Nat.reduceAdd, Nat.reduceLeDiff, Nat.reduceSub, Nat.reduceMul, Int.reduceEq, Nat.reduceBEq, hn1, hc2]) <;> rfl) H hL.sub (hK _ h)
def w_laws_szReturnS (a_ : (List S_Return)) (left_ : Int) (Q : Int → Prop) : Prop := a_.length ≤ 1152921504606846976 → (((decide ((IntKind.i64.wrap (left_ - (a_.length : Int))) < 0)) = true → Q (-1)) ∧ ((decide ((IntKind.i64.wrap (left_ - (a_.length : Int))) < 0)) = false → Q (IntKind.i64.wrap (left_ - (a_.length : Int)))))
theorem k_laws_szReturnS {a_ : (List S_Return)} {left_ : Int} {Q : Int → Prop} (h : w_laws_szReturnS a_ left_ Q) {H : Hp} {va_ : Value} (ra_ : SlR R_Return 4 H a_ va_) {K : Value → Hp → Prop} (hK : ∀ (r0 : Int), Q r0 → K (Value.int .i64 r0) H) :
    ACalls Go.Proofs.Try.prog n_laws_szReturnS #[va_, Value.int .i64 left_] H K := by
  unfold w_laws_szReturnS at h
  have h := h ra_.le
  refine acalls_go fn_laws_szReturnS rfl fun hl => ?_
  simp only [c_laws_szReturnS]
  have hL := Loc.nil H
  have hn1 := ra_.len
  (try simp only [go_sem, ↓reduceIte, Nat.reduceEqDiff, reduceCtorEq, Nat.reduceAdd, Nat.reduceLeDiff, Nat.reduceSub, Nat.reduceMul, Int.reduceEq, Nat.reduceBEq, hn1])
  cases hc2 : (decide ((IntKind.i64.wrap (left_ - (a_.length : Int))) < 0)) with
  | true =>
    have h := h.1 hc2
    (try simp only [go_sem, ↓reduceIte, Nat.reduceEqDiff, reduceCtorEq, Nat.reduceAdd, Nat.reduceLeDiff, Nat.reduceSub, Nat.reduceMul, Int.reduceEq, Nat.reduceBEq, hn1, hc2])
    exact retQ_r1 (by (try simp only [go_sem, ↓reduceIte, Nat.reduceEqDiff, reduceCtorEq, Nat.reduceAdd, Nat.reduceLeDiff, Nat.reduceSub, Nat.reduceMul, Int.reduceEq, Nat.reduceBEq, hn1, hc2]) <;> rfl) H hL.sub (hK _ h)
  | false =>
    have h := h.2 hc2
    (try simp only [go_sem, ↓reduceIte, Nat.reduceEqDiff, reduceCtorEq, Nat.reduceAdd, Nat.reduceLeDiff, Nat.reduceSub, Nat.reduceMul, Int.reduceEq, Nat.reduceBEq, hn1, hc2])
    exact retQ_r1 (by (try simp only [go_sem, ↓reduceIte, Nat.reduceEqDiff, reduceCtorEq, Nat.reduceAdd, Nat.reduceLeDiff, Nat.reduceSub, Nat.reduceMul, Int.reduceEq, Nat.reduceBEq, hn1, hc2]) <;> rfl) H hL.sub (hK _ h)
def w_laws_toOrder (a_ : S_Order) (Q : S_Order → Prop) : Prop := Q a_
theorem k_laws_toOrder {a_ : S_Order} {Q : S_Order → Prop} (h : w_laws_toOrder a_ Q) {H : Hp} {csa_ : List Value} (ra_ : R_Order H a_ csa_) {K : Value → Hp → Prop} (hK : ∀ (r0 : S_Order), Q r0 → K (.agg #[Value.int .i8 r0.fBuyer, Value.int .i8 r0.fItem, Value.int .i16 r0.fNumber, Value.int .i16 r0.fPrice, Value.int .i16 r0.fDay]) H) :
    ACalls Go.Proofs.Try.prog n_laws_toOrder #[.agg csa_.toArray] H K := by
  unfold w_laws_toOrder at h
  obtain rfl : csa_ = [Value.int .i8 a_.fBuyer, Value.int .i8 a_.fItem, Value.int .i16 a_.fNumber, Value.int .i16 a_.fPrice, Value.int .i16 a_.fDay] := ra_
  refine acalls_go fn_laws_toOrder rfl fun hl => ?_
  simp only [c_laws_toOrder]
  have hL := Loc.nil H
  (try simp only [go_sem, ↓reduceIte, Nat.reduceEqDiff, reduceCtorEq, Nat.reduceAdd, Nat.reduceLeDiff, Nat.reduceSub, Nat.reduceMul, Int.reduceEq, Nat.reduceBEq])
  refine awL_box [Value.int .i8 a_.fBuyer, Value.int .i8 a_.fItem, Value.int .i16 a_.fNumber, Value.int .i16 a_.fPrice, Value.int .i16 a_.fDay] hl hL (by (try simp only [go_sem, ↓reduceIte, Nat.reduceEqDiff, reduceCtorEq, Nat.reduceAdd, Nat.reduceLeDiff, Nat.reduceSub, Nat.reduceMul, Int.reduceEq, Nat.reduceBEq]) <;> rfl) fun b1 H2 hl3 hL4 => ?_
  (try simp only [go_sem, ↓reduceIte, Nat.reduceEqDiff, reduceCtorEq, Nat.reduceAdd, Nat.reduceLeDiff, Nat.reduceSub, Nat.reduceMul, Int.reduceEq, Nat.reduceBEq])
  refine awL_alloc hl3 hL4 fun b6 H7 hl8 hL9 => ?_
  (try simp only [go_sem, ↓reduceIte, Nat.reduceEqDiff, reduceCtorEq, Nat.reduceAdd, Nat.reduceLeDiff, Nat.reduceSub, Nat.reduceMul, Int.reduceEq, Nat.reduceBEq])
  refine awL_alloc hl8 hL9 fun b11 H12 hl13 hL14 => ?_
  have hb16 := hL14.box 2 rfl
  (try simp only [go_sem, ↓reduceIte, Nat.reduceEqDiff, reduceCtorEq, Nat.reduceAdd, Nat.reduceLeDiff, Nat.reduceSub, Nat.reduceMul, Int.reduceEq, Nat.reduceBEq, hb16])
  refine awL_st (off := 0) (xs' := [Value.int .i8 a_.fBuyer, Value.int .i8 0, Value.int .i16 0, Value.int .i16 0, Value.int .i16 0]) 0 hl13 hL14 rfl (by (try simp only [go_sem, ↓reduceIte, Nat.reduceEqDiff, reduceCtorEq, Nat.reduceAdd, Nat.reduceLeDiff, Nat.reduceSub, Nat.reduceMul, Int.reduceEq, Nat.reduceBEq, hb16]) <;> rfl) (by (try simp only [go_sem, ↓reduceIte, Nat.reduceEqDiff, reduceCtorEq, Nat.reduceAdd, Nat.reduceLeDiff, Nat.reduceSub, Nat.reduceMul, Int.reduceEq, Nat.reduceBEq, hb16]) <;> rfl) (by (try simp only [go_sem, ↓reduceIte, Nat.reduceEqDiff, reduceCtorEq, Nat.reduceAdd, Nat.reduceLeDiff, Nat.reduceSub, Nat.reduceMul, Int.reduceEq, Nat.reduceBEq, hb16]) <;> rfl) fun H17 hl18 hL19 => ?_
  have hb20 := hL19.box 2 rfl
  (try simp only [go_sem, ↓reduceIte, Nat.reduceEqDiff, reduceCtorEq, Nat.reduceAdd, Nat.reduceLeDiff, Nat.reduceSub, Nat.reduceMul, Int.reduceEq, Nat.reduceBEq, hb20])
  refine awL_st (off := 1) (xs' := [Value.int .i8 a_.fBuyer, Value.int .i8 a_.fItem, Value.int .i16 0, Value.int .i16 0, Value.int .i16 0]) 0 hl18 hL19 rfl (by (try simp only [go_sem, ↓reduceIte, Nat.reduceEqDiff, reduceCtorEq, Nat.reduceAdd, Nat.reduceLeDiff, Nat.reduceSub, Nat.reduceMul, Int.reduceEq, Nat.reduceBEq, hb20]) <;> rfl) (by (try simp only [go_sem, ↓reduceIte, Nat.reduceEqDiff, reduceCtorEq, Nat.reduceAdd, Nat.reduceLeDiff, Nat.reduceSub, Nat.reduceMul, Int.reduceEq, Nat.reduceBEq, hb20]) <;> rfl) (by (try simp only [go_sem, ↓reduceIte, Nat.reduceEqDiff, reduceCtorEq, Nat.reduceAdd, Nat.reduceLeDiff, Nat.reduceSub, Nat.reduceMul, Int.reduceEq, Nat.reduceBEq, hb20]) <;> rfl) fun H21 hl22 hL23 => ?_
  have hb24 := hL23.box 2 rfl
  (try simp only [go_sem, ↓reduceIte, Nat.reduceEqDiff, reduceCtorEq, Nat.reduceAdd, Nat.reduceLeDiff, Nat.reduceSub, Nat.reduceMul, Int.reduceEq, Nat.reduceBEq, hb24])
  refine awL_st (off := 2) (xs' := [Value.int .i8 a_.fBuyer, Value.int .i8 a_.fItem, Value.int .i16 a_.fNumber, Value.int .i16 0, Value.int .i16 0]) 0 hl22 hL23 rfl (by (try simp only [go_sem, ↓reduceIte, Nat.reduceEqDiff, reduceCtorEq, Nat.reduceAdd, Nat.reduceLeDiff, Nat.reduceSub, Nat.reduceMul, Int.reduceEq, Nat.reduceBEq, hb24]) <;> rfl) (by (try simp only [go_sem, ↓reduceIte, Nat.reduceEqDiff, reduceCtorEq, Nat.reduceAdd, Nat.reduceLeDiff, Nat.reduceSub, Nat.reduceMul, Int.reduceEq, Nat.reduceBEq, hb24]) <;> rfl) (by (try simp only [go_sem, ↓reduceIte, Nat.reduceEqDiff, reduceCtorEq, Nat.reduceAdd, Nat.reduceLeDiff, Nat.reduceSub, Nat.reduceMul, Int.reduceEq, Nat.reduceBEq, hb24]) <;> rfl) fun H25 hl26 hL27 => ?_
  have hb28 := hL27.box 2 rfl
  (try simp only [go_sem, ↓reduceIte, Nat.reduceEqDiff, reduceCtorEq, Nat.reduceAdd, Nat.reduceLeDiff, Nat.reduceSub, Nat.reduceMul, Int.reduceEq, Nat.reduceBEq, hb28])
  refine awL_st (off := 3) (xs' := [Value.int .i8 a_.fBuyer, Value.int .i8 a_.fItem, Value.int .i16 a_.fNumber, Value.int .i16 a_.fPrice, Value.int .i16 0]) 0 hl26 hL27 rfl (by (try simp only [go_sem, ↓reduceIte, Nat.reduceEqDiff, reduceCtorEq, Nat.reduceAdd, Nat.reduceLeDiff, Nat.reduceSub, Nat.reduceMul, Int.reduceEq, Nat.reduceBEq, hb28]) <;> rfl) (by (try simp only [go_sem, ↓reduceIte, Nat.reduceEqDiff, reduceCtorEq, Nat.reduceAdd, Nat.reduceLeDiff, Nat.reduceSub, Nat.reduceMul, Int.reduceEq, Nat.reduceBEq, hb28]) <;> rfl) (by (try simp only [go_sem, ↓reduceIte, Nat.reduceEqDiff, reduceCtorEq, Nat.reduceAdd, Nat.reduceLeDiff, Nat.reduceSub, Nat.reduceMul, Int.reduceEq, Nat.reduceBEq, hb28]) <;> rfl) fun H29 hl30 hL31 => ?_
  have hb32 := hL31.box 2 rfl
  (try simp only [go_sem, ↓reduceIte, Nat.reduceEqDiff, reduceCtorEq, Nat.reduceAdd, Nat.reduceLeDiff, Nat.reduceSub, Nat.reduceMul, Int.reduceEq, Nat.reduceBEq, hb32])
  refine awL_st (off := 4) (xs' := [Value.int .i8 a_.fBuyer, Value.int .i8 a_.fItem, Value.int .i16 a_.fNumber, Value.int .i16 a_.fPrice, Value.int .i16 a_.fDay]) 0 hl30 hL31 rfl (by (try simp only [go_sem, ↓reduceIte, Nat.reduceEqDiff, reduceCtorEq, Nat.reduceAdd, Nat.reduceLeDiff, Nat.reduceSub, Nat.reduceMul, Int.reduceEq, Nat.reduceBEq, hb32]) <;> rfl) (by (try simp only [go_sem, ↓reduceIte, Nat.reduceEqDiff, reduceCtorEq, Nat.reduceAdd, Nat.reduceLeDiff, Nat.reduceSub, Nat.reduceMul, Int.reduceEq, Nat.reduceBEq, hb32]) <;> rfl) (by (try simp only [go_sem, ↓reduceIte, Nat.reduceEqDiff, reduceCtorEq, Nat.reduceAdd, Nat.reduceLeDiff, Nat.reduceSub, Nat.reduceMul, Int.reduceEq, Nat.reduceBEq, hb32]) <;> rfl) fun H33 hl34 hL35 => ?_
  have hb36 := hL35.box 0 rfl
  (try simp only [go_sem, ↓reduceIte, Nat.reduceEqDiff, reduceCtorEq, Nat.reduceAdd, Nat.reduceLeDiff, Nat.reduceSub, Nat.reduceMul, Int.reduceEq, Nat.reduceBEq, hb36])
  refine awL_st (off := 0) (xs' := [Value.int .i8 a_.fBuyer, Value.int .i8 a_.fItem, Value.int .i16 a_.fNumber, Value.int .i16 a_.fPrice, Value.int .i16 a_.fDay]) 1 hl34 hL35 rfl (by (try simp only [go_sem, ↓reduceIte, Nat.reduceEqDiff, reduceCtorEq, Nat.reduceAdd, Nat.reduceLeDiff, Nat.reduceSub, Nat.reduceMul, Int.reduceEq, Nat.reduceBEq, hb36]) <;> rfl) (by (try simp only [go_sem, ↓reduceIte, Nat.reduceEqDiff, reduceCtorEq, Nat.reduceAdd, Nat.reduceLeDiff, Nat.reduceSub, Nat.reduceMul, Int.reduceEq, Nat.reduceBEq, hb36]) <;> rfl) (by (try simp only [go_sem, ↓reduceIte, Nat.reduceEqDiff, reduceCtorEq, Nat.reduceAdd, Nat.reduceLeDiff, Nat.reduceSub, Nat.reduceMul, Int.reduceEq, Nat.reduceBEq, hb36]) <;> rfl) fun H37 hl38 hL39 => ?_
  have hb40 := hL39.box 1 rfl
  (try simp only [go_sem, ↓reduceIte, Nat.reduceEqDiff, reduceCtorEq, Nat.reduceAdd, Nat.reduceLeDiff, Nat.reduceSub, Nat.reduceMul, Int.reduceEq, Nat.reduceBEq, hb40])
  exact retQ_ret (vs := [.agg #[Value.int .i8 a_.fBuyer, Value.int .i8 a_.fItem, Value.int .i16 a_.fNumber, Value.int .i16 a_.fPrice, Value.int .i16 a_.fDay]]) (by (try simp only [go_sem, ↓reduceIte, Nat.reduceEqDiff, reduceCtorEq, Nat.reduceAdd, Nat.reduceLeDiff, Nat.reduceSub, Nat.reduceMul, Int.reduceEq, Nat.reduceBEq, hb40, ares_cell, List.map_cons, List.map_nil])) H hL39.sub (hK _ h)
def w_laws_toOrderS (a_ : (List S_Order)) (Q : (List S_Order) → Prop) : Prop := a_.length ≤ 1152921504606846976 → (0 ≤ (a_.length : Int) ∧ 8 * (a_.length : Int) ≤ 281474976710656 ∧ (∃ I106 : Nat → Int → (List S_Order) → Prop, (∃ m, I106 m 0 (List.replicate ((a_.length : Int)).toNat (⟨0, 0, 0, 0, 0⟩ : S_Order))) ∧ (∀ (m115 : Nat) (x100 : Int) (xs101 : List S_Order), I106 m115 x100 xs101 → (((decide (x100 < (a_.length : Int))) = true → (In x100 a_.length ∧ (w_laws_toOrder (gt a_ x100) fun r129 => (In x100 xs101.length ∧ (∀ xs144, xs144 = (xs101.set (x100).toNat r129) → (∃ m116, m116 < m115 ∧ I106 m116 (IntKind.i64.wrap (x100 + 1)) xs144)))))) ∧ ((decide (x100 < (a_.length : Int))) = false → Q xs101)))))
theorem k_laws_toOrderS {a_ : (List S_Order)} {Q : (List S_Order) → Prop} (h : w_laws_toOrderS a_ Q) {H : Hp} {va_ : Value} (ra_ : SlR R_Order 5 H a_ va_) {K : Value → Hp → Prop} (hK : ∀ (r0 : (List S_Order)), Q r0 → ∀ (H' : Hp) (kb0 : Option Nat) (v0 : Value) (rows0 : List (List Value)), Live H' → Loc H H' [.own kb0 110 5 v0 rows0] → Rows R_Order H r0 rows0 → K (v0) H') :
    ACalls Go.Proofs.Try.prog n_laws_toOrderS #[va_] H K := by
  unfold w_laws_toOrderS at h
  have h := h ra_.le
  refine acalls_go fn_laws_toOrderS rfl fun hl => ?_
  simp only [c_laws_toOrderS]
  have hL := Loc.nil H
  have hn1 := ra_.len
  obtain ⟨hc2, hc3, h⟩ := h
  (try simp only [go_sem, ↓reduceIte, Nat.reduceEqDiff, reduceCtorEq, Nat.reduceAdd, Nat.reduceLeDiff, Nat.reduceSub, Nat.reduceMul, Int.reduceEq, Nat.reduceBEq, hn1])
  refine awL_msl 5 rfl hl hL (by (try simp only [go_sem, ↓reduceIte, Nat.reduceEqDiff, reduceCtorEq, Nat.reduceAdd, Nat.reduceLeDiff, Nat.reduceSub, Nat.reduceMul, Int.reduceEq, Nat.reduceBEq, hn1]) <;> rfl) (by (try simp only [go_sem, ↓reduceIte, Nat.reduceEqDiff, reduceCtorEq, Nat.reduceAdd, Nat.reduceLeDiff, Nat.reduceSub, Nat.reduceMul, Int.reduceEq, Nat.reduceBEq, hn1]) <;> rfl) hc2 (by omega) (by omega) fun b7 v8 H4 hl5 hL6 => ?_
  have hr9 : Rows R_Order H (List.replicate ((a_.length : Int)).toNat (⟨0, 0, 0, 0, 0⟩ : S_Order)) (List.replicate ((a_.length : Int)).toNat [Value.int .i8 0, Value.int .i8 0, Value.int .i16 0, Value.int .i16 0, Value.int .i16 0]) := Rows.rep (show R_Order H (⟨0, 0, 0, 0, 0⟩ : S_Order) [Value.int .i8 0, Value.int .i8 0, Value.int .i16 0, Value.int .i16 0, Value.int .i16 0] from rfl) _
  (try simp only [go_sem, ↓reduceIte, Nat.reduceEqDiff, reduceCtorEq, Nat.reduceAdd, Nat.reduceLeDiff, Nat.reduceSub, Nat.reduceMul, Int.reduceEq, Nat.reduceBEq, hn1])
  obtain ⟨I106, ⟨m0, h0⟩, hSI106⟩ := h
  refine aw_loopM hl5 (fun m115 T' H' => ∃ x100 xs101 rows104, I106 m115 x100 xs101 ∧ T' 4 = Value.int .i64 x100 ∧ Loc H H' [.own (some b7) 110 5 v8 rows104] ∧ Rows R_Order H xs101 rows104) m0 H4 (Hp.sub.refl _) ⟨0, (List.replicate ((a_.length : Int)).toNat (⟨0, 0, 0, 0, 0⟩ : S_Order)), (List.replicate ((a_.length : Int)).toNat [Value.int .i8 0, Value.int .i8 0, Value.int .i16 0, Value.int .i16 0, Value.int .i16 0]), h0, (by (try simp only [go_sem, ↓reduceIte, Nat.reduceEqDiff, reduceCtorEq, Nat.reduceAdd, Nat.reduceLeDiff, Nat.reduceSub, Nat.reduceMul, Int.reduceEq, Nat.reduceBEq, hn1]) <;> rfl), hL6, hr9⟩ ?_
  rintro m115 T109 H108 hl110 ho111 ⟨x100, xs101, rows104, hI113, t114, hL112, hr105⟩
  have t118 : T109 0 = va_ := by rw [ho111.get rfl]; (try simp only [go_sem, ↓reduceIte, Nat.reduceEqDiff, reduceCtorEq, Nat.reduceAdd, Nat.reduceLeDiff, Nat.reduceSub, Nat.reduceMul, Int.reduceEq, Nat.reduceBEq, hn1])
  have t119 : T109 3 = v8 := by rw [ho111.get rfl]; (try simp only [go_sem, ↓reduceIte, Nat.reduceEqDiff, reduceCtorEq, Nat.reduceAdd, Nat.reduceLeDiff, Nat.reduceSub, Nat.reduceMul, Int.reduceEq, Nat.reduceBEq, hn1])
  have h := hSI106 m115 x100 xs101 hI113
  have hn120 := ra_.len
  (try simp only [go_sem, ↓reduceIte, Nat.reduceEqDiff, reduceCtorEq, Nat.reduceAdd, Nat.reduceLeDiff, Nat.reduceSub, Nat.reduceMul, Int.reduceEq, Nat.reduceBEq, t114, t118, t119, hn1, hn120])
  cases hc121 : (decide (x100 < (a_.length : Int))) with
  | true =>
    have h := h.1 hc121
    obtain ⟨hi122, h⟩ := h
    obtain ⟨b123, o128, c124, hia125, hrd126, hR127⟩ := SlR.atB ra_ hL112.sub (k := .i64) hi122
    obtain rfl : c124 = [Value.int .i8 ((gt a_ x100).fBuyer), Value.int .i8 ((gt a_ x100).fItem), Value.int .i16 ((gt a_ x100).fNumber), Value.int .i16 ((gt a_ x100).fPrice), Value.int .i16 ((gt a_ x100).fDay)] := hR127
    (try simp only [go_sem, ↓reduceIte, Nat.reduceEqDiff, reduceCtorEq, Nat.reduceAdd, Nat.reduceLeDiff, Nat.reduceSub, Nat.reduceMul, Int.reduceEq, Nat.reduceBEq, t114, t118, t119, hn1, hn120, hc121, hia125, hrd126])
    refine aw_call (by (try simp only [go_sem, ↓reduceIte, Nat.reduceEqDiff, reduceCtorEq, Nat.reduceAdd, Nat.reduceLeDiff, Nat.reduceSub, Nat.reduceMul, Int.reduceEq, Nat.reduceBEq, t114, t118, t119, hn1, hn120, hc121, hia125, hrd126]) <;> rfl) (by (try simp only [go_sem, ↓reduceIte, Nat.reduceEqDiff, reduceCtorEq, Nat.reduceAdd, Nat.reduceLeDiff, Nat.reduceSub, Nat.reduceMul, Int.reduceEq, Nat.reduceBEq, t114, t118, t119, hn1, hn120, hc121, hia125, hrd126]) <;> rfl) (k_laws_toOrder h rfl fun r129 h => ?_)
    obtain ⟨hi131, h⟩ := h
    obtain ⟨b132, c133, hkb137, hia134, hrd135, hg138, hlt139, hR136⟩ := hL112.atR 0 rfl hr105 (k := .i64) hi131
    obtain rfl : c133 = [Value.int .i8 ((gt xs101 x100).fBuyer), Value.int .i8 ((gt xs101 x100).fItem), Value.int .i16 ((gt xs101 x100).fNumber), Value.int .i16 ((gt xs101 x100).fPrice), Value.int .i16 ((gt xs101 x100).fDay)] := hR136
    (try simp only [go_sem, ↓reduceIte, Nat.reduceEqDiff, reduceCtorEq, Nat.reduceAdd, Nat.reduceLeDiff, Nat.reduceSub, Nat.reduceMul, Int.reduceEq, Nat.reduceBEq, t114, t118, t119, hn1, hn120, hc121, hia125, hia134, hrd126, hrd135])
    refine awL_wrR (sub := 0) (r' := [Value.int .i8 r129.fBuyer, Value.int .i8 r129.fItem, Value.int .i16 r129.fNumber, Value.int .i16 r129.fPrice, Value.int .i16 r129.fDay]) 0 hl110 hL112 rfl hkb137 hlt139 hg138 (by (try simp only [go_sem, ↓reduceIte, Nat.reduceEqDiff, reduceCtorEq, Nat.reduceAdd, Nat.reduceLeDiff, Nat.reduceSub, Nat.reduceMul, Int.reduceEq, Nat.reduceBEq, t114, t118, t119, hn1, hn120, hc121, hia125, hia134, hrd126, hrd135]) <;> rfl) rfl (by (try simp only [go_sem, ↓reduceIte, Nat.reduceEqDiff, reduceCtorEq, Nat.reduceAdd, Nat.reduceLeDiff, Nat.reduceSub, Nat.reduceMul, Int.reduceEq, Nat.reduceBEq, t114, t118, t119, hn1, hn120, hc121, hia125, hia134, hrd126, hrd135]) <;> rfl) (by (try simp only [go_sem, ↓reduceIte, Nat.reduceEqDiff, reduceCtorEq, Nat.reduceAdd, Nat.reduceLeDiff, Nat.reduceSub, Nat.reduceMul, Int.reduceEq, Nat.reduceBEq, t114, t118, t119, hn1, hn120, hc121, hia125, hia134, hrd126, hrd135]) <;> rfl) fun H140 hl141 hL142 => ?_
    have hr143 := hr105.set (x100).toNat (show R_Order H r129 [Value.int .i8 r129.fBuyer, Value.int .i8 r129.fItem, Value.int .i16 r129.fNumber, Value.int .i16 r129.fPrice, Value.int .i16 r129.fDay] from rfl)
    obtain ⟨xs144, hxs145⟩ : ∃ ys, ys = (xs101.set (x100).toNat r129) := ⟨_, rfl⟩
    rw [← hxs145] at hr143
    have h := h xs144 hxs145
    generalize (rows104.set (x100).toNat [Value.int .i8 r129.fBuyer, Value.int .i8 r129.fItem, Value.int .i16 r129.fNumber, Value.int .i16 r129.fPrice, Value.int .i16 r129.fDay]) = rows146 at hL142 hr143
    obtain ⟨m116, hm117, h⟩ := h
    (try simp only [go_sem, ↓reduceIte, Nat.reduceEqDiff, reduceCtorEq, Nat.reduceAdd, Nat.reduceLeDiff, Nat.reduceSub, Nat.reduceMul, Int.reduceEq, Nat.reduceBEq, t114, t118, t119, hn1, hn120, hc121, hia125, hia134])
    exact ⟨m116, H140, hm117, Hp.sub.refl _, (IntKind.i64.wrap (x100 + 1)), xs144, rows146, h, (by (try simp only [go_sem, ↓reduceIte, Nat.reduceEqDiff, reduceCtorEq, Nat.reduceAdd, Nat.reduceLeDiff, Nat.reduceSub, Nat.reduceMul, Int.reduceEq, Nat.reduceBEq, t114, t118, t119, hn1, hn120, hc121, hia125, hia134]) <;> rfl), hL142, hr143⟩
  | false =>
    have h := h.2 hc121
    (try simp only [go_sem, ↓reduceIte, Nat.reduceEqDiff, reduceCtorEq, Nat.reduceAdd, Nat.reduceLeDiff, Nat.reduceSub, Nat.reduceMul, Int.reduceEq, Nat.reduceBEq, t114, t118, t119, hn1, hn120, hc121])
    exact retQ_r1 (by (try simp only [go_sem, ↓reduceIte, Nat.reduceEqDiff, reduceCtorEq, Nat.reduceAdd, Nat.reduceLeDiff, Nat.reduceSub, Nat.reduceMul, Int.reduceEq, Nat.reduceBEq, t114, t118, t119, hn1, hn120, hc121]) <;> rfl) H108 (Hp.sub.refl _) (hK _ h H108 (some b7) v8 rows104 hl110 (hL112.sel [0] (by decide)) hr105)
def w_laws_toReturn (a_ : S_Return) (Q : S_Return → Prop) : Prop := Q a_
theorem k_laws_toReturn {a_ : S_Return} {Q : S_Return → Prop} (h : w_laws_toReturn a_ Q) {H : Hp} {csa_ : List Value} (ra_ : R_Return H a_ csa_) {K : Value → Hp → Prop} (hK : ∀ (r0 : S_Return), Q r0 → K (.agg #[Value.int .i8 r0.fBuyer, Value.int .i8 r0.fItem, Value.int .i16 r0.fNumber, Value.int .i16 r0.fDay]) H) :
    ACalls Go.Proofs.Try.prog n_laws_toReturn #[.agg csa_.toArray] H K := by
  unfold w_laws_toReturn at h
  obtain rfl : csa_ = [Value.int .i8 a_.fBuyer, Value.int .i8 a_.fItem, Value.int .i16 a_.fNumber, Value.int .i16 a_.fDay] := ra_
  refine acalls_go fn_laws_toReturn rfl fun hl => ?_
  simp only [c_laws_toReturn]
  have hL := Loc.nil H
  (try simp only [go_sem, ↓reduceIte, Nat.reduceEqDiff, reduceCtorEq, Nat.reduceAdd, Nat.reduceLeDiff, Nat.reduceSub, Nat.reduceMul, Int.reduceEq, Nat.reduceBEq])
  refine awL_box [Value.int .i8 a_.fBuyer, Value.int .i8 a_.fItem, Value.int .i16 a_.fNumber, Value.int .i16 a_.fDay] hl hL (by (try simp only [go_sem, ↓reduceIte, Nat.reduceEqDiff, reduceCtorEq, Nat.reduceAdd, Nat.reduceLeDiff, Nat.reduceSub, Nat.reduceMul, Int.reduceEq, Nat.reduceBEq]) <;> rfl) fun b1 H2 hl3 hL4 => ?_
  (try simp only [go_sem, ↓reduceIte, Nat.reduceEqDiff, reduceCtorEq, Nat.reduceAdd, Nat.reduceLeDiff, Nat.reduceSub, Nat.reduceMul, Int.reduceEq, Nat.reduceBEq])
  refine awL_alloc hl3 hL4 fun b6 H7 hl8 hL9 => ?_
  (try simp only [go_sem, ↓reduceIte, Nat.reduceEqDiff, reduceCtorEq, Nat.reduceAdd, Nat.reduceLeDiff, Nat.reduceSub, Nat.reduceMul, Int.reduceEq, Nat.reduceBEq])
  refine awL_alloc hl8 hL9 fun b11 H12 hl13 hL14 => ?_
  have hb16 := hL14.box 2 rfl
  (try simp only [go_sem, ↓reduceIte, Nat.reduceEqDiff, reduceCtorEq, Nat.reduceAdd, Nat.reduceLeDiff, Nat.reduceSub, Nat.reduceMul, Int.reduceEq, Nat.reduceBEq, hb16])
  refine awL_st (off := 0) (xs' := [Value.int .i8 a_.fBuyer, Value.int .i8 0, Value.int .i16 0, Value.int .i16 0]) 0 hl13 hL14 rfl (by (try simp only [go_sem, ↓reduceIte, Nat.reduceEqDiff, reduceCtorEq, Nat.reduceAdd, Nat.reduceLeDiff, Nat.reduceSub, Nat.reduceMul, Int.reduceEq, Nat.reduceBEq, hb16]) <;> rfl) (by (try simp only [go_sem, ↓reduceIte, Nat.reduceEqDiff, reduceCtorEq, Nat.reduceAdd, Nat.reduceLeDiff, Nat.reduceSub, Nat.reduceMul, Int.reduceEq, Nat.reduceBEq, hb16]) <;> rfl) (by (try simp only [go_sem, ↓reduceIte, Nat.reduceEqDiff, reduceCtorEq, Nat.reduceAdd, Nat.reduceLeDiff, Nat.reduceSub, Nat.reduceMul, Int.reduceEq, Nat.reduceBEq, hb16]) <;> rfl) fun H17 hl18 hL19 => ?_
  have hb20 := hL19.box 2 rfl
  (try simp only [go_sem, ↓reduceIte, Nat.reduceEqDiff, reduceCtorEq, Nat.reduceAdd, Nat.reduceLeDiff, Nat.reduceSub, Nat.reduceMul, Int.reduceEq, Nat.reduceBEq, hb20])
  refine awL_st (off := 1) (xs' := [Value.int .i8 a_.fBuyer, Value.int .i8 a_.fItem, Value.int .i16 0, Value.int .i16 0]) 0 hl18 hL19 rfl (by (try simp only [go_sem, ↓reduceIte, Nat.reduceEqDiff, reduceCtorEq, Nat.reduceAdd, Nat.reduceLeDiff, Nat.reduceSub, Nat.reduceMul, Int.reduceEq, Nat.reduceBEq, hb20]) <;> rfl) (by (try simp only [go_sem, ↓reduceIte, Nat.reduceEqDiff, reduceCtorEq, Nat.reduceAdd, Nat.reduceLeDiff, Nat.reduceSub, Nat.reduceMul, Int.reduceEq, Nat.reduceBEq, hb20]) <;> rfl) (by (try simp only [go_sem, ↓reduceIte, Nat.reduceEqDiff, reduceCtorEq, Nat.reduceAdd, Nat.reduceLeDiff, Nat.reduceSub, Nat.reduceMul, Int.reduceEq, Nat.reduceBEq, hb20]) <;> rfl) fun H21 hl22 hL23 => ?_
  have hb24 := hL23.box 2 rfl
  (try simp only [go_sem, ↓reduceIte, Nat.reduceEqDiff, reduceCtorEq, Nat.reduceAdd, Nat.reduceLeDiff, Nat.reduceSub, Nat.reduceMul, Int.reduceEq, Nat.reduceBEq, hb24])
  refine awL_st (off := 2) (xs' := [Value.int .i8 a_.fBuyer, Value.int .i8 a_.fItem, Value.int .i16 a_.fNumber, Value.int .i16 0]) 0 hl22 hL23 rfl (by (try simp only [go_sem, ↓reduceIte, Nat.reduceEqDiff, reduceCtorEq, Nat.reduceAdd, Nat.reduceLeDiff, Nat.reduceSub, Nat.reduceMul, Int.reduceEq, Nat.reduceBEq, hb24]) <;> rfl) (by (try simp only [go_sem, ↓reduceIte, Nat.reduceEqDiff, reduceCtorEq, Nat.reduceAdd, Nat.reduceLeDiff, Nat.reduceSub, Nat.reduceMul, Int.reduceEq, Nat.reduceBEq, hb24]) <;> rfl) (by (try simp only [go_sem, ↓reduceIte, Nat.reduceEqDiff, reduceCtorEq, Nat.reduceAdd, Nat.reduceLeDiff, Nat.reduceSub, Nat.reduceMul, Int.reduceEq, Nat.reduceBEq, hb24]) <;> rfl) fun H25 hl26 hL27 => ?_
  have hb28 := hL27.box 2 rfl
  (try simp only [go_sem, ↓reduceIte, Nat.reduceEqDiff, reduceCtorEq, Nat.reduceAdd, Nat.reduceLeDiff, Nat.reduceSub, Nat.reduceMul, Int.reduceEq, Nat.reduceBEq, hb28])
  refine awL_st (off := 3) (xs' := [Value.int .i8 a_.fBuyer, Value.int .i8 a_.fItem, Value.int .i16 a_.fNumber, Value.int .i16 a_.fDay]) 0 hl26 hL27 rfl (by (try simp only [go_sem, ↓reduceIte, Nat.reduceEqDiff, reduceCtorEq, Nat.reduceAdd, Nat.reduceLeDiff, Nat.reduceSub, Nat.reduceMul, Int.reduceEq, Nat.reduceBEq, hb28]) <;> rfl) (by (try simp only [go_sem, ↓reduceIte, Nat.reduceEqDiff, reduceCtorEq, Nat.reduceAdd, Nat.reduceLeDiff, Nat.reduceSub, Nat.reduceMul, Int.reduceEq, Nat.reduceBEq, hb28]) <;> rfl) (by (try simp only [go_sem, ↓reduceIte, Nat.reduceEqDiff, reduceCtorEq, Nat.reduceAdd, Nat.reduceLeDiff, Nat.reduceSub, Nat.reduceMul, Int.reduceEq, Nat.reduceBEq, hb28]) <;> rfl) fun H29 hl30 hL31 => ?_
  have hb32 := hL31.box 0 rfl
  (try simp only [go_sem, ↓reduceIte, Nat.reduceEqDiff, reduceCtorEq, Nat.reduceAdd, Nat.reduceLeDiff, Nat.reduceSub, Nat.reduceMul, Int.reduceEq, Nat.reduceBEq, hb32])
  refine awL_st (off := 0) (xs' := [Value.int .i8 a_.fBuyer, Value.int .i8 a_.fItem, Value.int .i16 a_.fNumber, Value.int .i16 a_.fDay]) 1 hl30 hL31 rfl (by (try simp only [go_sem, ↓reduceIte, Nat.reduceEqDiff, reduceCtorEq, Nat.reduceAdd, Nat.reduceLeDiff, Nat.reduceSub, Nat.reduceMul, Int.reduceEq, Nat.reduceBEq, hb32]) <;> rfl) (by (try simp only [go_sem, ↓reduceIte, Nat.reduceEqDiff, reduceCtorEq, Nat.reduceAdd, Nat.reduceLeDiff, Nat.reduceSub, Nat.reduceMul, Int.reduceEq, Nat.reduceBEq, hb32]) <;> rfl) (by (try simp only [go_sem, ↓reduceIte, Nat.reduceEqDiff, reduceCtorEq, Nat.reduceAdd, Nat.reduceLeDiff, Nat.reduceSub, Nat.reduceMul, Int.reduceEq, Nat.reduceBEq, hb32]) <;> rfl) fun H33 hl34 hL35 => ?_
  have hb36 := hL35.box 1 rfl
  (try simp only [go_sem, ↓reduceIte, Nat.reduceEqDiff, reduceCtorEq, Nat.reduceAdd, Nat.reduceLeDiff, Nat.reduceSub, Nat.reduceMul, Int.reduceEq, Nat.reduceBEq, hb36])
  exact retQ_ret (vs := [.agg #[Value.int .i8 a_.fBuyer, Value.int .i8 a_.fItem, Value.int .i16 a_.fNumber, Value.int .i16 a_.fDay]]) (by (try simp only [go_sem, ↓reduceIte, Nat.reduceEqDiff, reduceCtorEq, Nat.reduceAdd, Nat.reduceLeDiff, Nat.reduceSub, Nat.reduceMul, Int.reduceEq, Nat.reduceBEq, hb36, ares_cell, List.map_cons, List.map_nil])) H hL35.sub (hK _ h)
def w_laws_toReturnS (a_ : (List S_Return)) (Q : (List S_Return) → Prop) : Prop := a_.length ≤ 1152921504606846976 → (0 ≤ (a_.length : Int) ∧ 6 * (a_.length : Int) ≤ 281474976710656 ∧ (∃ I106 : Nat → Int → (List S_Return) → Prop, (∃ m, I106 m 0 (List.replicate ((a_.length : Int)).toNat (⟨0, 0, 0, 0⟩ : S_Return))) ∧ (∀ (m115 : Nat) (x100 : Int) (xs101 : List S_Return), I106 m115 x100 xs101 → (((decide (x100 < (a_.length : Int))) = true → (In x100 a_.length ∧ (w_laws_toReturn (gt a_ x100) fun r129 => (In x100 xs101.length ∧ (∀ xs144, xs144 = (xs101.set (x100).toNat r129) → (∃ m116, m116 < m115 ∧ I106 m116 (IntKind.i64.wrap (x100 + 1)) xs144)))))) ∧ ((decide (x100 < (a_.length : Int))) = false → Q xs101)))))
theorem k_laws_toReturnS {a_ : (List S_Return)} {Q : (List S_Return) → Prop} (h : w_laws_toReturnS a_ Q) {H : Hp} {va_ : Value} (ra_ : SlR R_Return 4 H a_ va_) {K : Value → Hp → Prop} (hK : ∀ (r0 : (List S_Return)), Q r0 → ∀ (H' : Hp) (kb0 : Option Nat) (v0 : Value) (rows0 : List (List Value)), Live H' → Loc H H' [.own kb0 107 4 v0 rows0] → Rows R_Return H r0 rows0 → K (v0) H') :
    ACalls Go.Proofs.Try.prog n_laws_toReturnS #[va_] H K := by
  unfold w_laws_toReturnS at h
  have h := h ra_.le
  refine acalls_go fn_laws_toReturnS rfl fun hl => ?_
  simp only [c_laws_toReturnS]
  have hL := Loc.nil H
  have hn1 := ra_.len
  obtain ⟨hc2, hc3, h⟩ := h
  (try simp only [go_sem, ↓reduceIte, Nat.reduceEqDiff, reduceCtorEq, Nat.reduceAdd, Nat.reduceLeDiff, Nat.reduceSub, Nat.reduceMul, Int.reduceEq, Nat.reduceBEq, hn1])
  refine awL_msl 4 rfl hl hL (by (try simp only [go_sem, ↓reduceIte, Nat.reduceEqDiff, reduceCtorEq, Nat.reduceAdd, Nat.reduceLeDiff, Nat.reduceSub, Nat.reduceMul, Int.reduceEq, Nat.reduceBEq, hn1]) <;> rfl) (by (try simp only [go_sem, ↓reduceIte, Nat.reduceEqDiff, reduceCtorEq, Nat.reduceAdd, Nat.reduceLeDiff, Nat.reduceSub, Nat.reduceMul, Int.reduceEq, Nat.reduceBEq, hn1]) <;> rfl) hc2 (by omega) (by omega) fun b7 v8 H4 hl5 hL6 => ?_
  have hr9 : Rows R_Return H (List.replicate ((a_.length : Int)).toNat (⟨0, 0, 0, 0⟩ : S_Return)) (List.replicate ((a_.length : Int)).toNat [Value.int .i8 0, Value.int .i8 0, Value.int .i16 0, Value.int .i16 0]) := Rows.rep (show R_Return H (⟨0, 0, 0, 0⟩ : S_Return) [Value.int .i8 0, Value.int .i8 0, Value.int .i16 0, Value.int .i16 0] from rfl) _
  (try simp only [go_sem, ↓reduceIte, Nat.reduceEqDiff, reduceCtorEq, Nat.reduceAdd, Nat.reduceLeDiff, Nat.reduceSub, Nat.reduceMul, Int.reduceEq, Nat.reduceBEq, hn1])
  obtain ⟨I106, ⟨m0, h0⟩, hSI106⟩ := h
  refine aw_loopM hl5 (fun m115 T' H' => ∃ x100 xs101 rows104, I106 m115 x100 xs101 ∧ T' 4 = Value.int .i64 x100 ∧ Loc H H' [.own (some b7) 107 4 v8 rows104] ∧ Rows R_Return H xs101 rows104) m0 H4 (Hp.sub.refl _) ⟨0, (List.replicate ((a_.length : Int)).toNat (⟨0, 0, 0, 0⟩ : S_Return)), (List.replicate ((a_.length : Int)).toNat [Value.int .i8 0, Value.int .i8 0, Value.int .i16 0, Value.int .i16 0]), h0, (by (try simp only [go_sem, ↓reduceIte, Nat.reduceEqDiff, reduceCtorEq, Nat.reduceAdd, Nat.reduceLeDiff, Nat.reduceSub, Nat.reduceMul, Int.reduceEq, Nat.reduceBEq, hn1]) <;> rfl), hL6, hr9⟩ ?_
  rintro m115 T109 H108 hl110 ho111 ⟨x100, xs101, rows104, hI113, t114, hL112, hr105⟩
  have t118 : T109 0 = va_ := by rw [ho111.get rfl]; (try simp only [go_sem, ↓reduceIte, Nat.reduceEqDiff, reduceCtorEq, Nat.reduceAdd, Nat.reduceLeDiff, Nat.reduceSub, Nat.reduceMul, Int.reduceEq, Nat.reduceBEq, hn1])
  have t119 : T109 3 = v8 := by rw [ho111.get rfl]; (try simp only [go_sem, ↓reduceIte, Nat.reduceEqDiff, reduceCtorEq, Nat.reduceAdd, Nat.reduceLeDiff, Nat.reduceSub, Nat.reduceMul, Int.reduceEq, Nat.reduceBEq, hn1])
  have h := hSI106 m115 x100 xs101 hI113
  have hn120 := ra_.len
  (try simp only [go_sem, ↓reduceIte, Nat.reduceEqDiff, reduceCtorEq, Nat.reduceAdd, Nat.reduceLeDiff, Nat.reduceSub, Nat.reduceMul, Int.reduceEq, Nat.reduceBEq, t114, t118, t119, hn1, hn120])
  cases hc121 : (decide (x100 < (a_.length : Int))) with
  | true =>
    have h := h.1 hc121
    obtain ⟨hi122, h⟩ := h
    obtain ⟨b123, o128, c124, hia125, hrd126, hR127⟩ := SlR.atB ra_ hL112.sub (k := .i64) hi122
    obtain rfl : c124 = [Value.int .i8 ((gt a_ x100).fBuyer), Value.int .i8 ((gt a_ x100).fItem), Value.int .i16 ((gt a_ x100).fNumber), Value.int .i16 ((gt a_ x100).fDay)] := hR127
    (try simp only [go_sem, ↓reduceIte, Nat.reduceEqDiff, reduceCtorEq, Nat.reduceAdd, Nat.reduceLeDiff, Nat.reduceSub, Nat.reduceMul, Int.reduceEq, Nat.reduceBEq, t114, t118, t119, hn1, hn120, hc121, hia125, hrd126])
    refine aw_call (by (try simp only [go_sem, ↓reduceIte, Nat.reduceEqDiff, reduceCtorEq, Nat.reduceAdd, Nat.reduceLeDiff, Nat.reduceSub, Nat.reduceMul, Int.reduceEq, Nat.reduceBEq, t114, t118, t119, hn1, hn120, hc121, hia125, hrd126]) <;> rfl) (by (try simp only [go_sem, ↓reduceIte, Nat.reduceEqDiff, reduceCtorEq, Nat.reduceAdd, Nat.reduceLeDiff, Nat.reduceSub, Nat.reduceMul, Int.reduceEq, Nat.reduceBEq, t114, t118, t119, hn1, hn120, hc121, hia125, hrd126]) <;> rfl) (k_laws_toReturn h rfl fun r129 h => ?_)
    obtain ⟨hi131, h⟩ := h
    obtain ⟨b132, c133, hkb137, hia134, hrd135, hg138, hlt139, hR136⟩ := hL112.atR 0 rfl hr105 (k := .i64) hi131
    obtain rfl : c133 = [Value.int .i8 ((gt xs101 x100).fBuyer), Value.int .i8 ((gt xs101 x100).fItem), Value.int .i16 ((gt xs101 x100).fNumber), Value.int .i16 ((gt xs101 x100).fDay)] := hR136
    (try simp only [go_sem, ↓reduceIte, Nat.reduceEqDiff, reduceCtorEq, Nat.reduceAdd, Nat.reduceLeDiff, Nat.reduceSub, Nat.reduceMul, Int.reduceEq, Nat.reduceBEq, t114, t118, t119, hn1, hn120, hc121, hia125, hia134, hrd126, hrd135])
    refine awL_wrR (sub := 0) (r' := [Value.int .i8 r129.fBuyer, Value.int .i8 r129.fItem, Value.int .i16 r129.fNumber, Value.int .i16 r129.fDay]) 0 hl110 hL112 rfl hkb137 hlt139 hg138 (by (try simp only [go_sem, ↓reduceIte, Nat.reduceEqDiff, reduceCtorEq, Nat.reduceAdd, Nat.reduceLeDiff, Nat.reduceSub, Nat.reduceMul, Int.reduceEq, Nat.reduceBEq, t114, t118, t119, hn1, hn120, hc121, hia125, hia134, hrd126, hrd135]) <;> rfl) rfl (by (try simp only [go_sem, ↓reduceIte, Nat.reduceEqDiff, reduceCtorEq, Nat.reduceAdd, Nat.reduceLeDiff, Nat.reduceSub, Nat.reduceMul, Int.reduceEq, Nat.reduceBEq, t114, t118, t119, hn1, hn120, hc121, hia125, hia134, hrd126, hrd135]) <;> rfl) (by (try simp only [go_sem, ↓reduceIte, Nat.reduceEqDiff, reduceCtorEq, Nat.reduceAdd, Nat.reduceLeDiff, Nat.reduceSub, Nat.reduceMul, Int.reduceEq, Nat.reduceBEq, t114, t118, t119, hn1, hn120, hc121, hia125, hia134, hrd126, hrd135]) <;> rfl) fun H140 hl141 hL142 => ?_
    have hr143 := hr105.set (x100).toNat (show R_Return H r129 [Value.int .i8 r129.fBuyer, Value.int .i8 r129.fItem, Value.int .i16 r129.fNumber, Value.int .i16 r129.fDay] from rfl)
    obtain ⟨xs144, hxs145⟩ : ∃ ys, ys = (xs101.set (x100).toNat r129) := ⟨_, rfl⟩
    rw [← hxs145] at hr143
    have h := h xs144 hxs145
    generalize (rows104.set (x100).toNat [Value.int .i8 r129.fBuyer, Value.int .i8 r129.fItem, Value.int .i16 r129.fNumber, Value.int .i16 r129.fDay]) = rows146 at hL142 hr143
    obtain ⟨m116, hm117, h⟩ := h
    (try simp only [go_sem, ↓reduceIte, Nat.reduceEqDiff, reduceCtorEq, Nat.reduceAdd, Nat.reduceLeDiff, Nat.reduceSub, Nat.reduceMul, Int.reduceEq, Nat.reduceBEq, t114, t118, t119, hn1, hn120, hc121, hia125, hia134])
    exact ⟨m116, H140, hm117, Hp.sub.refl _, (IntKind.i64.wrap (x100 + 1)), xs144, rows146, h, (by (try simp only [go_sem, ↓reduceIte, Nat.reduceEqDiff, reduceCtorEq, Nat.reduceAdd, Nat.reduceLeDiff, Nat.reduceSub, Nat.reduceMul, Int.reduceEq, Nat.reduceBEq, t114, t118, t119, hn1, hn120, hc121, hia125, hia134]) <;> rfl), hL142, hr143⟩
  | false =>
    have h := h.2 hc121
    (try simp only [go_sem, ↓reduceIte, Nat.reduceEqDiff, reduceCtorEq, Nat.reduceAdd, Nat.reduceLeDiff, Nat.reduceSub, Nat.reduceMul, Int.reduceEq, Nat.reduceBEq, t114, t118, t119, hn1, hn120, hc121])
    exact retQ_r1 (by (try simp only [go_sem, ↓reduceIte, Nat.reduceEqDiff, reduceCtorEq, Nat.reduceAdd, Nat.reduceLeDiff, Nat.reduceSub, Nat.reduceMul, Int.reduceEq, Nat.reduceBEq, t114, t118, t119, hn1, hn120, hc121]) <;> rfl) H108 (Hp.sub.refl _) (hK _ h H108 (some b7) v8 rows104 hl110 (hL112.sel [0] (by decide)) hr105)
def w_spec_l00In (n_ : Int) (low_ : Int) (high_ : Int) (Q : Bool → Prop) : Prop := Q ((decide (n_ ≥ low_)) && (decide (n_ ≤ high_)))
theorem k_spec_l00In {n_ : Int} {low_ : Int} {high_ : Int} {Q : Bool → Prop} (h : w_spec_l00In n_ low_ high_ Q) {H : Hp} {K : Value → Hp → Prop} (hK : ∀ (r0 : Bool), Q r0 → K (Value.bool r0) H) :
    ACalls Go.Proofs.Try.prog n_spec_l00In #[Value.int .i64 n_, Value.int .i64 low_, Value.int .i64 high_] H K := by
  unfold w_spec_l00In at h
  refine acalls_go fn_spec_l00In rfl fun hl => ?_
  simp only [c_spec_l00In]
  have hL := Loc.nil H
  (try simp only [go_sem, ↓reduceIte, Nat.reduceEqDiff, reduceCtorEq, Nat.reduceAdd, Nat.reduceLeDiff, Nat.reduceSub, Nat.reduceMul, Int.reduceEq, Nat.reduceBEq])
  refine aw_cut 4 (fun T' H' => T' 14 = Value.bool ((decide (n_ ≥ low_)) && (decide (n_ ≤ high_))) ∧ H' = H) hl rfl ?_ (fun T2 H3 _ ho4 hj5 => ?_)
  · cases hc1 : (decide (n_ ≥ low_)) with
    | true =>
      simp only [opsK]
      (try simp only [go_sem, ↓reduceIte, Nat.reduceEqDiff, reduceCtorEq, Nat.reduceAdd, Nat.reduceLeDiff, Nat.reduceSub, Nat.reduceMul, Int.reduceEq, Nat.reduceBEq, hc1])
      exact ⟨by (try simp only [go_sem, ↓reduceIte, Nat.reduceEqDiff, reduceCtorEq, Nat.reduceAdd, Nat.reduceLeDiff, Nat.reduceSub, Nat.reduceMul, Int.reduceEq, Nat.reduceBEq, hc1, Bool.false_and, Bool.true_or, Bool.false_or]), rfl⟩
    | false =>
      simp only [opsK]
      (try simp only [go_sem, ↓reduceIte, Nat.reduceEqDiff, reduceCtorEq, Nat.reduceAdd, Nat.reduceLeDiff, Nat.reduceSub, Nat.reduceMul, Int.reduceEq, Nat.reduceBEq, hc1])
      exact ⟨by (try simp only [go_sem, ↓reduceIte, Nat.reduceEqDiff, reduceCtorEq, Nat.reduceAdd, Nat.reduceLeDiff, Nat.reduceSub, Nat.reduceMul, Int.reduceEq, Nat.reduceBEq, Bool.false_and, Bool.true_or, Bool.false_or]), rfl⟩
  obtain ⟨t6, hH7⟩ := hj5
  rw [hH7]
  (try simp only [go_sem, ↓reduceIte, Nat.reduceEqDiff, reduceCtorEq, Nat.reduceAdd, Nat.reduceLeDiff, Nat.reduceSub, Nat.reduceMul, Int.reduceEq, Nat.reduceBEq, t6])
  exact retQ_r1 (by (try simp only [go_sem, ↓reduceIte, Nat.reduceEqDiff, reduceCtorEq, Nat.reduceAdd, Nat.reduceLeDiff, Nat.reduceSub, Nat.reduceMul, Int.reduceEq, Nat.reduceBEq, t6]) <;> rfl) H hL.sub (hK _ h)
def w_spec_l06Days (days_ : Int) (Q : Bool → Prop) : Prop := (w_spec_l00In days_ 0 1000 fun r1 => Q r1)
theorem k_spec_l06Days {days_ : Int} {Q : Bool → Prop} (h : w_spec_l06Days days_ Q) {H : Hp} {K : Value → Hp → Prop} (hK : ∀ (r0 : Bool), Q r0 → K (Value.bool r0) H) :
    ACalls Go.Proofs.Try.prog n_spec_l06Days #[Value.int .i64 days_] H K := by
  unfold w_spec_l06Days at h
  refine acalls_go fn_spec_l06Days rfl fun hl => ?_
  simp only [c_spec_l06Days]
  have hL := Loc.nil H
  (try simp only [go_sem, ↓reduceIte, Nat.reduceEqDiff, reduceCtorEq, Nat.reduceAdd, Nat.reduceLeDiff, Nat.reduceSub, Nat.reduceMul, Int.reduceEq, Nat.reduceBEq])
  refine aw_call (by (try simp only [go_sem, ↓reduceIte, Nat.reduceEqDiff, reduceCtorEq, Nat.reduceAdd, Nat.reduceLeDiff, Nat.reduceSub, Nat.reduceMul, Int.reduceEq, Nat.reduceBEq]) <;> rfl) (by (try simp only [go_sem, ↓reduceIte, Nat.reduceEqDiff, reduceCtorEq, Nat.reduceAdd, Nat.reduceLeDiff, Nat.reduceSub, Nat.reduceMul, Int.reduceEq, Nat.reduceBEq]) <;> rfl) (k_spec_l00In h fun r1 h => ?_)
  (try simp only [go_sem, ↓reduceIte, Nat.reduceEqDiff, reduceCtorEq, Nat.reduceAdd, Nat.reduceLeDiff, Nat.reduceSub, Nat.reduceMul, Int.reduceEq, Nat.reduceBEq])
  exact retQ_r1 (by (try simp only [go_sem, ↓reduceIte, Nat.reduceEqDiff, reduceCtorEq, Nat.reduceAdd, Nat.reduceLeDiff, Nat.reduceSub, Nat.reduceMul, Int.reduceEq, Nat.reduceBEq]) <;> rfl) H hL.sub (hK _ h)
def w_spec_l06Known (buyer_ : Int) (item_ : Int) (Q : Bool → Prop) : Prop := (w_spec_l00In buyer_ 0 8 fun r1 => (∃ k4 : Bool → Prop, (∀ x5, k4 x5 → Q x5) ∧ (r1 = true → (w_spec_l00In item_ 0 11 fun r6 => k4 r6)) ∧ (r1 = false → k4 false)))
theorem k_spec_l06Known {buyer_ : Int} {item_ : Int} {Q : Bool → Prop} (h : w_spec_l06Known buyer_ item_ Q) {H : Hp} {K : Value → Hp → Prop} (hK : ∀ (r0 : Bool), Q r0 → K (Value.bool r0) H) :
    ACalls Go.Proofs.Try.prog n_spec_l06Known #[Value.int .i64 buyer_, Value.int .i64 item_] H K := by
  unfold w_spec_l06Known at h
  refine acalls_go fn_spec_l06Known rfl fun hl => ?_
  simp only [c_spec_l06Known]
  have hL := Loc.nil H
  (try simp only [go_sem, ↓reduceIte, Nat.reduceEqDiff, reduceCtorEq, Nat.reduceAdd, Nat.reduceLeDiff, Nat.reduceSub, Nat.reduceMul, Int.reduceEq, Nat.reduceBEq])
  refine aw_call (by (try simp only [go_sem, ↓reduceIte, Nat.reduceEqDiff, reduceCtorEq, Nat.reduceAdd, Nat.reduceLeDiff, Nat.reduceSub, Nat.reduceMul, Int.reduceEq, Nat.reduceBEq]) <;> rfl) (by (try simp only [go_sem, ↓reduceIte, Nat.reduceEqDiff, reduceCtorEq, Nat.reduceAdd, Nat.reduceLeDiff, Nat.reduceSub, Nat.reduceMul, Int.reduceEq, Nat.reduceBEq]) <;> rfl) (k_spec_l00In h fun r1 h => ?_)
  (try simp only [go_sem, ↓reduceIte, Nat.reduceEqDiff, reduceCtorEq, Nat.reduceAdd, Nat.reduceLeDiff, Nat.reduceSub, Nat.reduceMul, Int.reduceEq, Nat.reduceBEq])
  obtain ⟨k4, hk8, hk4, h9⟩ := h
  refine aw_cut 3 (fun T' H' => ∃ x5, k4 x5 ∧ T' 10 = Value.bool x5 ∧ H' = H) hl rfl ?_ (fun T10 H11 _ ho12 hj13 => ?_)
  · cases hc3 : r1 with
    | true =>
      simp only [opsK]
      have h := hk4 hc3
      (try simp only [go_sem, ↓reduceIte, Nat.reduceEqDiff, reduceCtorEq, Nat.reduceAdd, Nat.reduceLeDiff, Nat.reduceSub, Nat.reduceMul, Int.reduceEq, Nat.reduceBEq, hc3])
      refine aw_call (by (try simp only [go_sem, ↓reduceIte, Nat.reduceEqDiff, reduceCtorEq, Nat.reduceAdd, Nat.reduceLeDiff, Nat.reduceSub, Nat.reduceMul, Int.reduceEq, Nat.reduceBEq, hc3]) <;> rfl) (by (try simp only [go_sem, ↓reduceIte, Nat.reduceEqDiff, reduceCtorEq, Nat.reduceAdd, Nat.reduceLeDiff, Nat.reduceSub, Nat.reduceMul, Int.reduceEq, Nat.reduceBEq, hc3]) <;> rfl) (k_spec_l00In h fun r6 h => ?_)
      (try simp only [go_sem, ↓reduceIte, Nat.reduceEqDiff, reduceCtorEq, Nat.reduceAdd, Nat.reduceLeDiff, Nat.reduceSub, Nat.reduceMul, Int.reduceEq, Nat.reduceBEq, hc3])
      exact ⟨r6, h, by (try simp only [go_sem, ↓reduceIte, Nat.reduceEqDiff, reduceCtorEq, Nat.reduceAdd, Nat.reduceLeDiff, Nat.reduceSub, Nat.reduceMul, Int.reduceEq, Nat.reduceBEq, hc3]), rfl⟩
    | false =>
      simp only [opsK]
      (try simp only [go_sem, ↓reduceIte, Nat.reduceEqDiff, reduceCtorEq, Nat.reduceAdd, Nat.reduceLeDiff, Nat.reduceSub, Nat.reduceMul, Int.reduceEq, Nat.reduceBEq, hc3])
      exact ⟨false, h9 hc3, by (try simp only [go_sem, ↓reduceIte, Nat.reduceEqDiff, reduceCtorEq, Nat.reduceAdd, Nat.reduceLeDiff, Nat.reduceSub, Nat.reduceMul, Int.reduceEq, Nat.reduceBEq]), rfl⟩
  obtain ⟨x5, h, t14, hH15⟩ := hj13
  rw [hH15]
  have h := hk8 x5 h
  (try simp only [go_sem, ↓reduceIte, Nat.reduceEqDiff, reduceCtorEq, Nat.reduceAdd, Nat.reduceLeDiff, Nat.reduceSub, Nat.reduceMul, Int.reduceEq, Nat.reduceBEq, t14])
  exact retQ_r1 (by (try simp only [go_sem, ↓reduceIte, Nat.reduceEqDiff, reduceCtorEq, Nat.reduceAdd, Nat.reduceLeDiff, Nat.reduceSub, Nat.reduceMul, Int.reduceEq, Nat.reduceBEq, t14]) <;> rfl) H hL.sub (hK _ h)
def w_spec_l06Orders (list_ : (List S_Order)) (Q : Bool → Prop) : Prop := list_.length ≤ 1152921504606846976 → (∃ I85 : Nat → Int → Prop, (∃ m, I85 m 0) ∧ (∀ (m94 : Nat) (x84 : Int), I85 m94 x84 → (((decide (x84 < (list_.length : Int))) = true → (In x84 list_.length ∧ (w_spec_l06Known (IntKind.i64.wrap ((gt list_ x84).fBuyer)) (IntKind.i64.wrap ((gt list_ x84).fItem)) fun r116 => (∃ k119 : Bool → Prop, (∀ x120, k119 x120 → (∃ k135 : Bool → Prop, (∀ x136, k135 x136 → (∃ k151 : Bool → Prop, (∀ x152, k151 x152 → ((x152 = true → Q false) ∧ (x152 = false → (∃ m95, m95 < m94 ∧ I85 m95 (IntKind.i64.wrap (x84 + 1)))))) ∧ (x136 = false → (w_spec_l00In (IntKind.i64.wrap ((gt list_ x84).fDay)) 0 1000 fun r153 => k151 (!r153))) ∧ (x136 = true → k151 true))) ∧ (x120 = false → (w_spec_l00In (IntKind.i64.wrap ((gt list_ x84).fPrice)) 0 10000 fun r137 => k135 (!r137))) ∧ (x120 = true → k135 true))) ∧ ((!r116) = false → (w_spec_l00In (IntKind.i64.wrap ((gt list_ x84).fNumber)) 1 100 fun r121 => k119 (!r121))) ∧ ((!r116) = true → k119 true))))) ∧ ((decide (x84 < (list_.length : Int))) = false → Q (decide ((list_.length : Int) ≤ 40))))))
theorem k_spec_l06Orders {list_ : (List S_Order)} {Q : Bool → Prop} (h : w_spec_l06Orders list_ Q) {H : Hp} {vlist_ : Value} (rlist_ : SlR R_Order 5 H list_ vlist_) {K : Value → Hp → Prop} (hK : ∀ (r0 : Bool), Q r0 → K (Value.bool r0) H) :
    ACalls Go.Proofs.Try.prog n_spec_l06Orders #[vlist_] H K := by
  unfold w_spec_l06Orders at h
  have h := h rlist_.le
  refine acalls_go fn_spec_l06Orders rfl fun hl => ?_
  simp only [c_spec_l06Orders]
  have hL := Loc.nil H
  (try simp only [go_sem, ↓reduceIte, Nat.reduceEqDiff, reduceCtorEq, Nat.reduceAdd, Nat.reduceLeDiff, Nat.reduceSub, Nat.reduceMul, Int.reduceEq, Nat.reduceBEq])
  obtain ⟨I85, ⟨m0, h0⟩, hSI85⟩ := h
  refine aw_loopM hl (fun m94 T' H' => ∃ x84, I85 m94 x84 ∧ T' 3 = Value.int .i64 x84 ∧ Loc H H' []) m0 H (Hp.sub.refl _) ⟨0, h0, (by (try simp only [go_sem, ↓reduceIte, Nat.reduceEqDiff, reduceCtorEq, Nat.reduceAdd, Nat.reduceLeDiff, Nat.reduceSub, Nat.reduceMul, Int.reduceEq, Nat.reduceBEq]) <;> rfl), hL⟩ ?_
  rintro m94 T88 H87 hl89 ho90 ⟨x84, hI92, t93, hL91⟩
  have t97 : T88 0 = vlist_ := by rw [ho90.get rfl]; (try simp only [go_sem, ↓reduceIte, Nat.reduceEqDiff, reduceCtorEq, Nat.reduceAdd, Nat.reduceLeDiff, Nat.reduceSub, Nat.reduceMul, Int.reduceEq, Nat.reduceBEq])
  have h := hSI85 m94 x84 hI92
  have hn98 := rlist_.len
  (try simp only [go_sem, ↓reduceIte, Nat.reduceEqDiff, reduceCtorEq, Nat.reduceAdd, Nat.reduceLeDiff, Nat.reduceSub, Nat.reduceMul, Int.reduceEq, Nat.reduceBEq, t93, t97, hn98])
  cases hc99 : (decide (x84 < (list_.length : Int))) with
  | true =>
    have h := h.1 hc99
    obtain ⟨hi100, h⟩ := h
    obtain ⟨b101, o106, c102, hia103, hrd104, hR105⟩ := SlR.atB rlist_ hL91.sub (k := .i64) hi100
    obtain rfl : c102 = [Value.int .i8 ((gt list_ x84).fBuyer), Value.int .i8 ((gt list_ x84).fItem), Value.int .i16 ((gt list_ x84).fNumber), Value.int .i16 ((gt list_ x84).fPrice), Value.int .i16 ((gt list_ x84).fDay)] := hR105
    (try simp only [go_sem, ↓reduceIte, Nat.reduceEqDiff, reduceCtorEq, Nat.reduceAdd, Nat.reduceLeDiff, Nat.reduceSub, Nat.reduceMul, Int.reduceEq, Nat.reduceBEq, t93, t97, hn98, hc99, hia103, hrd104])
    refine awL_alloc hl89 hL91 fun b107 H108 hl109 hL110 => ?_
    (try simp only [go_sem, ↓reduceIte, Nat.reduceEqDiff, reduceCtorEq, Nat.reduceAdd, Nat.reduceLeDiff, Nat.reduceSub, Nat.reduceMul, Int.reduceEq, Nat.reduceBEq, t93, t97, hn98, hc99, hia103])
    refine awL_st (off := 0) (xs' := [Value.int .i8 ((gt list_ x84).fBuyer), Value.int .i8 ((gt list_ x84).fItem), Value.int .i16 ((gt list_ x84).fNumber), Value.int .i16 ((gt list_ x84).fPrice), Value.int .i16 ((gt list_ x84).fDay)]) 0 hl109 hL110 rfl (by (try simp only [go_sem, ↓reduceIte, Nat.reduceEqDiff, reduceCtorEq, Nat.reduceAdd, Nat.reduceLeDiff, Nat.reduceSub, Nat.reduceMul, Int.reduceEq, Nat.reduceBEq, t93, t97, hn98, hc99, hia103]) <;> rfl) (by (try simp only [go_sem, ↓reduceIte, Nat.reduceEqDiff, reduceCtorEq, Nat.reduceAdd, Nat.reduceLeDiff, Nat.reduceSub, Nat.reduceMul, Int.reduceEq, Nat.reduceBEq, t93, t97, hn98, hc99, hia103]) <;> rfl) (by (try simp only [go_sem, ↓reduceIte, Nat.reduceEqDiff, reduceCtorEq, Nat.reduceAdd, Nat.reduceLeDiff, Nat.reduceSub, Nat.reduceMul, Int.reduceEq, Nat.reduceBEq, t93, t97, hn98, hc99, hia103]) <;> rfl) fun H112 hl113 hL114 => ?_
    have hb115 := hL114.box 0 rfl
    (try simp only [go_sem, ↓reduceIte, Nat.reduceEqDiff, reduceCtorEq, Nat.reduceAdd, Nat.reduceLeDiff, Nat.reduceSub, Nat.reduceMul, Int.reduceEq, Nat.reduceBEq, t93, t97, hn98, hc99, hia103, hb115])
    refine aw_call (by (try simp only [go_sem, ↓reduceIte, Nat.reduceEqDiff, reduceCtorEq, Nat.reduceAdd, Nat.reduceLeDiff, Nat.reduceSub, Nat.reduceMul, Int.reduceEq, Nat.reduceBEq, t93, t97, hn98, hc99, hia103, hb115]) <;> rfl) (by (try simp only [go_sem, ↓reduceIte, Nat.reduceEqDiff, reduceCtorEq, Nat.reduceAdd, Nat.reduceLeDiff, Nat.reduceSub, Nat.reduceMul, Int.reduceEq, Nat.reduceBEq, t93, t97, hn98, hc99, hia103, hb115]) <;> rfl) (k_spec_l06Known h fun r116 h => ?_)
    (try simp only [go_sem, ↓reduceIte, Nat.reduceEqDiff, reduceCtorEq, Nat.reduceAdd, Nat.reduceLeDiff, Nat.reduceSub, Nat.reduceMul, Int.reduceEq, Nat.reduceBEq, t93, t97, hn98, hc99, hia103, hb115])
    obtain ⟨k119, hk123, hk119, h124⟩ := h
    refine aw_cut 6 (fun T' H' => ∃ x120, k119 x120 ∧ T' 29 = Value.bool x120 ∧ H' = H112) hl113 rfl ?_ (fun T125 H126 _ ho127 hj128 => ?_)
    · cases hc118 : (!r116) with
      | true =>
        simp only [opsK]
        (try simp only [go_sem, ↓reduceIte, Nat.reduceEqDiff, reduceCtorEq, Nat.reduceAdd, Nat.reduceLeDiff, Nat.reduceSub, Nat.reduceMul, Int.reduceEq, Nat.reduceBEq, t93, t97, hn98, hc99, hia103, hb115, hc118])
        exact ⟨true, h124 hc118, by (try simp only [go_sem, ↓reduceIte, Nat.reduceEqDiff, reduceCtorEq, Nat.reduceAdd, Nat.reduceLeDiff, Nat.reduceSub, Nat.reduceMul, Int.reduceEq, Nat.reduceBEq]), rfl⟩
      | false =>
        simp only [opsK]
        have h := hk119 hc118
        (try simp only [go_sem, ↓reduceIte, Nat.reduceEqDiff, reduceCtorEq, Nat.reduceAdd, Nat.reduceLeDiff, Nat.reduceSub, Nat.reduceMul, Int.reduceEq, Nat.reduceBEq, t93, t97, hn98, hc99, hia103, hc118, hb115])
        refine aw_call (by (try simp only [go_sem, ↓reduceIte, Nat.reduceEqDiff, reduceCtorEq, Nat.reduceAdd, Nat.reduceLeDiff, Nat.reduceSub, Nat.reduceMul, Int.reduceEq, Nat.reduceBEq, t93, t97, hn98, hc99, hia103, hc118, hb115]) <;> rfl) (by (try simp only [go_sem, ↓reduceIte, Nat.reduceEqDiff, reduceCtorEq, Nat.reduceAdd, Nat.reduceLeDiff, Nat.reduceSub, Nat.reduceMul, Int.reduceEq, Nat.reduceBEq, t93, t97, hn98, hc99, hia103, hc118, hb115]) <;> rfl) (k_spec_l00In h fun r121 h => ?_)
        (try simp only [go_sem, ↓reduceIte, Nat.reduceEqDiff, reduceCtorEq, Nat.reduceAdd, Nat.reduceLeDiff, Nat.reduceSub, Nat.reduceMul, Int.reduceEq, Nat.reduceBEq, t93, t97, hn98, hc99, hia103, hc118, hb115])
        exact ⟨(!r121), h, by (try simp only [go_sem, ↓reduceIte, Nat.reduceEqDiff, reduceCtorEq, Nat.reduceAdd, Nat.reduceLeDiff, Nat.reduceSub, Nat.reduceMul, Int.reduceEq, Nat.reduceBEq, t93, t97, hn98, hc99, hia103, hc118, hb115]), rfl⟩
    obtain ⟨x120, h, t129, hH130⟩ := hj128
    rw [hH130]
    have h := hk123 x120 h
    have t131 : T125 0 = vlist_ := by rw [ho127.get rfl]; (try simp only [go_sem, ↓reduceIte, Nat.reduceEqDiff, reduceCtorEq, Nat.reduceAdd, Nat.reduceLeDiff, Nat.reduceSub, Nat.reduceMul, Int.reduceEq, Nat.reduceBEq, t93, t97, hn98, hc99, hia103, hb115])
    have t132 : T125 3 = Value.int .i64 x84 := by rw [ho127.get rfl]; (try simp only [go_sem, ↓reduceIte, Nat.reduceEqDiff, reduceCtorEq, Nat.reduceAdd, Nat.reduceLeDiff, Nat.reduceSub, Nat.reduceMul, Int.reduceEq, Nat.reduceBEq, t93, t97, hn98, hc99, hia103, hb115])
    have t133 : T125 4 = Value.pointer (some ⟨b107, 0, none⟩) := by rw [ho127.get rfl]; (try simp only [go_sem, ↓reduceIte, Nat.reduceEqDiff, reduceCtorEq, Nat.reduceAdd, Nat.reduceLeDiff, Nat.reduceSub, Nat.reduceMul, Int.reduceEq, Nat.reduceBEq, t93, t97, hn98, hc99, hia103, hb115])
    (try simp only [go_sem, ↓reduceIte, Nat.reduceEqDiff, reduceCtorEq, Nat.reduceAdd, Nat.reduceLeDiff, Nat.reduceSub, Nat.reduceMul, Int.reduceEq, Nat.reduceBEq, t131, t132, t133, t129, hn98, hc99, hia103, hb115])
    obtain ⟨k135, hk139, hk135, h140⟩ := h
    refine aw_cut 6 (fun T' H' => ∃ x136, k135 x136 ∧ T' 36 = Value.bool x136 ∧ H' = H112) hl113 rfl ?_ (fun T141 H142 _ ho143 hj144 => ?_)
    · cases hc134 : x120 with
      | true =>
        simp only [opsK]
        (try simp only [go_sem, ↓reduceIte, Nat.reduceEqDiff, reduceCtorEq, Nat.reduceAdd, Nat.reduceLeDiff, Nat.reduceSub, Nat.reduceMul, Int.reduceEq, Nat.reduceBEq, t131, t132, t133, t129, hn98, hc99, hia103, hb115, hc134])
        exact ⟨true, h140 hc134, by (try simp only [go_sem, ↓reduceIte, Nat.reduceEqDiff, reduceCtorEq, Nat.reduceAdd, Nat.reduceLeDiff, Nat.reduceSub, Nat.reduceMul, Int.reduceEq, Nat.reduceBEq]), rfl⟩
      | false =>
        simp only [opsK]
        have h := hk135 hc134
        (try simp only [go_sem, ↓reduceIte, Nat.reduceEqDiff, reduceCtorEq, Nat.reduceAdd, Nat.reduceLeDiff, Nat.reduceSub, Nat.reduceMul, Int.reduceEq, Nat.reduceBEq, t131, t132, t133, t129, hn98, hc99, hia103, hc134, hb115])
        refine aw_call (by (try simp only [go_sem, ↓reduceIte, Nat.reduceEqDiff, reduceCtorEq, Nat.reduceAdd, Nat.reduceLeDiff, Nat.reduceSub, Nat.reduceMul, Int.reduceEq, Nat.reduceBEq, t131, t132, t133, t129, hn98, hc99, hia103, hc134, hb115]) <;> rfl) (by (try simp only [go_sem, ↓reduceIte, Nat.reduceEqDiff, reduceCtorEq, Nat.reduceAdd, Nat.reduceLeDiff, Nat.reduceSub, Nat.reduceMul, Int.reduceEq, Nat.reduceBEq, t131, t132, t133, t129, hn98, hc99, hia103, hc134, hb115]) <;> rfl) (k_spec_l00In h fun r137 h => ?_)
        (try simp only [go_sem, ↓reduceIte, Nat.reduceEqDiff, reduceCtorEq, Nat.reduceAdd, Nat.reduceLeDiff, Nat.reduceSub, Nat.reduceMul, Int.reduceEq, Nat.reduceBEq, t131, t132, t133, t129, hn98, hc99, hia103, hc134, hb115])
        exact ⟨(!r137), h, by (try simp only [go_sem, ↓reduceIte, Nat.reduceEqDiff, reduceCtorEq, Nat.reduceAdd, Nat.reduceLeDiff, Nat.reduceSub, Nat.reduceMul, Int.reduceEq, Nat.reduceBEq, t131, t132, t133, t129, hn98, hc99, hia103, hc134, hb115]), rfl⟩
    obtain ⟨x136, h, t145, hH146⟩ := hj144
    rw [hH146]
    have h := hk139 x136 h
    have t147 : T141 0 = vlist_ := by rw [ho143.get rfl]; (try simp only [go_sem, ↓reduceIte, Nat.reduceEqDiff, reduceCtorEq, Nat.reduceAdd, Nat.reduceLeDiff, Nat.reduceSub, Nat.reduceMul, Int.reduceEq, Nat.reduceBEq, t131, t132, t133, t129, hn98, hc99, hia103, hb115])
    have t148 : T141 3 = Value.int .i64 x84 := by rw [ho143.get rfl]; (try simp only [go_sem, ↓reduceIte, Nat.reduceEqDiff, reduceCtorEq, Nat.reduceAdd, Nat.reduceLeDiff, Nat.reduceSub, Nat.reduceMul, Int.reduceEq, Nat.reduceBEq, t131, t132, t133, t129, hn98, hc99, hia103, hb115])
    have t149 : T141 4 = Value.pointer (some ⟨b107, 0, none⟩) := by rw [ho143.get rfl]; (try simp only [go_sem, ↓reduceIte, Nat.reduceEqDiff, reduceCtorEq, Nat.reduceAdd, Nat.reduceLeDiff, Nat.reduceSub, Nat.reduceMul, Int.reduceEq, Nat.reduceBEq, t131, t132, t133, t129, hn98, hc99, hia103, hb115])
    (try simp only [go_sem, ↓reduceIte, Nat.reduceEqDiff, reduceCtorEq, Nat.reduceAdd, Nat.reduceLeDiff, Nat.reduceSub, Nat.reduceMul, Int.reduceEq, Nat.reduceBEq, t147, t148, t149, t145, hn98, hc99, hia103, hb115])
    obtain ⟨k151, hk155, hk151, h156⟩ := h
    refine aw_cut 6 (fun T' H' => ∃ x152, k151 x152 ∧ T' 43 = Value.bool x152 ∧ H' = H112) hl113 rfl ?_ (fun T157 H158 _ ho159 hj160 => ?_)
    · cases hc150 : x136 with
      | true =>
        simp only [opsK]
        (try simp only [go_sem, ↓reduceIte, Nat.reduceEqDiff, reduceCtorEq, Nat.reduceAdd, Nat.reduceLeDiff, Nat.reduceSub, Nat.reduceMul, Int.reduceEq, Nat.reduceBEq, t147, t148, t149, t145, hn98, hc99, hia103, hb115, hc150])
        exact ⟨true, h156 hc150, by (try simp only [go_sem, ↓reduceIte, Nat.reduceEqDiff, reduceCtorEq, Nat.reduceAdd, Nat.reduceLeDiff, Nat.reduceSub, Nat.reduceMul, Int.reduceEq, Nat.reduceBEq]), rfl⟩
      | false =>
        simp only [opsK]
        have h := hk151 hc150
        (try simp only [go_sem, ↓reduceIte, Nat.reduceEqDiff, reduceCtorEq, Nat.reduceAdd, Nat.reduceLeDiff, Nat.reduceSub, Nat.reduceMul, Int.reduceEq, Nat.reduceBEq, t147, t148, t149, t145, hn98, hc99, hia103, hc150, hb115])
        refine aw_call (by (try simp only [go_sem, ↓reduceIte, Nat.reduceEqDiff, reduceCtorEq, Nat.reduceAdd, Nat.reduceLeDiff, Nat.reduceSub, Nat.reduceMul, Int.reduceEq, Nat.reduceBEq, t147, t148, t149, t145, hn98, hc99, hia103, hc150, hb115]) <;> rfl) (by (try simp only [go_sem, ↓reduceIte, Nat.reduceEqDiff, reduceCtorEq, Nat.reduceAdd, Nat.reduceLeDiff, Nat.reduceSub, Nat.reduceMul, Int.reduceEq, Nat.reduceBEq, t147, t148, t149, t145, hn98, hc99, hia103, hc150, hb115]) <;> rfl) (k_spec_l00In h fun r153 h => ?_)
        (try simp only [go_sem, ↓reduceIte, Nat.reduceEqDiff, reduceCtorEq, Nat.reduceAdd, Nat.reduceLeDiff, Nat.reduceSub, Nat.reduceMul, Int.reduceEq, Nat.reduceBEq, t147, t148, t149, t145, hn98, hc99, hia103, hc150, hb115])
        exact ⟨(!r153), h, by (try simp only [go_sem, ↓reduceIte, Nat.reduceEqDiff, reduceCtorEq, Nat.reduceAdd, Nat.reduceLeDiff, Nat.reduceSub, Nat.reduceMul, Int.reduceEq, Nat.reduceBEq, t147, t148, t149, t145, hn98, hc99, hia103, hc150, hb115]), rfl⟩
    obtain ⟨x152, h, t161, hH162⟩ := hj160
    rw [hH162]
    have h := hk155 x152 h
    have t163 : T157 0 = vlist_ := by rw [ho159.get rfl]; (try simp only [go_sem, ↓reduceIte, Nat.reduceEqDiff, reduceCtorEq, Nat.reduceAdd, Nat.reduceLeDiff, Nat.reduceSub, Nat.reduceMul, Int.reduceEq, Nat.reduceBEq, t147, t148, t149, t145, hn98, hc99, hia103, hb115])
    have t164 : T157 3 = Value.int .i64 x84 := by rw [ho159.get rfl]; (try simp only [go_sem, ↓reduceIte, Nat.reduceEqDiff, reduceCtorEq, Nat.reduceAdd, Nat.reduceLeDiff, Nat.reduceSub, Nat.reduceMul, Int.reduceEq, Nat.reduceBEq, t147, t148, t149, t145, hn98, hc99, hia103, hb115])
    (try simp only [go_sem, ↓reduceIte, Nat.reduceEqDiff, reduceCtorEq, Nat.reduceAdd, Nat.reduceLeDiff, Nat.reduceSub, Nat.reduceMul, Int.reduceEq, Nat.reduceBEq, t163, t164, t161, hn98, hc99, hia103, hb115])
    cases hc165 : x152 with
    | true =>
      have h := h.1 hc165
      (try simp only [go_sem, ↓reduceIte, Nat.reduceEqDiff, reduceCtorEq, Nat.reduceAdd, Nat.reduceLeDiff, Nat.reduceSub, Nat.reduceMul, Int.reduceEq, Nat.reduceBEq, t163, t164, t161, hn98, hc99, hia103, hc165, hb115])
      exact retQ_r1 (by (try simp only [go_sem, ↓reduceIte, Nat.reduceEqDiff, reduceCtorEq, Nat.reduceAdd, Nat.reduceLeDiff, Nat.reduceSub, Nat.reduceMul, Int.reduceEq, Nat.reduceBEq, t163, t164, t161, hn98, hc99, hia103, hc165, hb115]) <;> rfl) H hL114.sub (hK _ h)
    | false =>
      have h := h.2 hc165
      obtain ⟨m95, hm96, h⟩ := h
      (try simp only [go_sem, ↓reduceIte, Nat.reduceEqDiff, reduceCtorEq, Nat.reduceAdd, Nat.reduceLeDiff, Nat.reduceSub, Nat.reduceMul, Int.reduceEq, Nat.reduceBEq, t163, t164, t161, hn98, hc99, hia103, hc165, hb115])
      exact ⟨m95, H112, hm96, Hp.sub.refl _, (IntKind.i64.wrap (x84 + 1)), h, (by (try simp only [go_sem, ↓reduceIte, Nat.reduceEqDiff, reduceCtorEq, Nat.reduceAdd, Nat.reduceLeDiff, Nat.reduceSub, Nat.reduceMul, Int.reduceEq, Nat.reduceBEq, t163, t164, t161, hn98, hc99, hia103, hc165, hb115]) <;> rfl), (hL114.sel [] (by decide))⟩
  | false =>
    have h := h.2 hc99
    have hn166 := rlist_.len
    (try simp only [go_sem, ↓reduceIte, Nat.reduceEqDiff, reduceCtorEq, Nat.reduceAdd, Nat.reduceLeDiff, Nat.reduceSub, Nat.reduceMul, Int.reduceEq, Nat.reduceBEq, t93, t97, hn98, hc99, hn166])
    exact retQ_r1 (by (try simp only [go_sem, ↓reduceIte, Nat.reduceEqDiff, reduceCtorEq, Nat.reduceAdd, Nat.reduceLeDiff, Nat.reduceSub, Nat.reduceMul, Int.reduceEq, Nat.reduceBEq, t93, t97, hn98, hc99, hn166]) <;> rfl) H hL91.sub (hK _ h)
def w_spec_l06Returns (list_ : (List S_Return)) (Q : Bool → Prop) : Prop := list_.length ≤ 1152921504606846976 → (∃ I69 : Nat → Int → Prop, (∃ m, I69 m 0) ∧ (∀ (m78 : Nat) (x68 : Int), I69 m78 x68 → (((decide (x68 < (list_.length : Int))) = true → (In x68 list_.length ∧ (w_spec_l06Known (IntKind.i64.wrap ((gt list_ x68).fBuyer)) (IntKind.i64.wrap ((gt list_ x68).fItem)) fun r100 => (∃ k103 : Bool → Prop, (∀ x104, k103 x104 → (∃ k119 : Bool → Prop, (∀ x120, k119 x120 → ((x120 = true → Q false) ∧ (x120 = false → (∃ m79, m79 < m78 ∧ I69 m79 (IntKind.i64.wrap (x68 + 1)))))) ∧ (x104 = false → (w_spec_l00In (IntKind.i64.wrap ((gt list_ x68).fDay)) 0 1000 fun r121 => k119 (!r121))) ∧ (x104 = true → k119 true))) ∧ ((!r100) = false → (w_spec_l00In (IntKind.i64.wrap ((gt list_ x68).fNumber)) 1 100 fun r105 => k103 (!r105))) ∧ ((!r100) = true → k103 true))))) ∧ ((decide (x68 < (list_.length : Int))) = false → Q (decide ((list_.length : Int) ≤ 40))))))
theorem k_spec_l06Returns {list_ : (List S_Return)} {Q : Bool → Prop} (h : w_spec_l06Returns list_ Q) {H : Hp} {vlist_ : Value} (rlist_ : SlR R_Return 4 H list_ vlist_) {K : Value → Hp → Prop} (hK : ∀ (r0 : Bool), Q r0 → K (Value.bool r0) H) :
    ACalls Go.Proofs.Try.prog n_spec_l06Returns #[vlist_] H K := by
  unfold w_spec_l06Returns at h
  have h := h rlist_.le
  refine acalls_go fn_spec_l06Returns rfl fun hl => ?_
  simp only [c_spec_l06Returns]
  have hL := Loc.nil H
  (try simp only [go_sem, ↓reduceIte, Nat.reduceEqDiff, reduceCtorEq, Nat.reduceAdd, Nat.reduceLeDiff, Nat.reduceSub, Nat.reduceMul, Int.reduceEq, Nat.reduceBEq])
  obtain ⟨I69, ⟨m0, h0⟩, hSI69⟩ := h
  refine aw_loopM hl (fun m78 T' H' => ∃ x68, I69 m78 x68 ∧ T' 3 = Value.int .i64 x68 ∧ Loc H H' []) m0 H (Hp.sub.refl _) ⟨0, h0, (by (try simp only [go_sem, ↓reduceIte, Nat.reduceEqDiff, reduceCtorEq, Nat.reduceAdd, Nat.reduceLeDiff, Nat.reduceSub, Nat.reduceMul, Int.reduceEq, Nat.reduceBEq]) <;> rfl), hL⟩ ?_
  rintro m78 T72 H71 hl73 ho74 ⟨x68, hI76, t77, hL75⟩
  have t81 : T72 0 = vlist_ := by rw [ho74.get rfl]; (try simp only [go_sem, ↓reduceIte, Nat.reduceEqDiff, reduceCtorEq, Nat.reduceAdd, Nat.reduceLeDiff, Nat.reduceSub, Nat.reduceMul, Int.reduceEq, Nat.reduceBEq])
  have h := hSI69 m78 x68 hI76
  have hn82 := rlist_.len
  (try simp only [go_sem, ↓reduceIte, Nat.reduceEqDiff, reduceCtorEq, Nat.reduceAdd, Nat.reduceLeDiff, Nat.reduceSub, Nat.reduceMul, Int.reduceEq, Nat.reduceBEq, t77, t81, hn82])
  cases hc83 : (decide (x68 < (list_.length : Int))) with
  | true =>
    have h := h.1 hc83
    obtain ⟨hi84, h⟩ := h
    obtain ⟨b85, o90, c86, hia87, hrd88, hR89⟩ := SlR.atB rlist_ hL75.sub (k := .i64) hi84
    obtain rfl : c86 = [Value.int .i8 ((gt list_ x68).fBuyer), Value.int .i8 ((gt list_ x68).fItem), Value.int .i16 ((gt list_ x68).fNumber), Value.int .i16 ((gt list_ x68).fDay)] := hR89
    (try simp only [go_sem, ↓reduceIte, Nat.reduceEqDiff, reduceCtorEq, Nat.reduceAdd, Nat.reduceLeDiff, Nat.reduceSub, Nat.reduceMul, Int.reduceEq, Nat.reduceBEq, t77, t81, hn82, hc83, hia87, hrd88])
    refine awL_alloc hl73 hL75 fun b91 H92 hl93 hL94 => ?_
    (try simp only [go_sem, ↓reduceIte, Nat.reduceEqDiff, reduceCtorEq, Nat.reduceAdd, Nat.reduceLeDiff, Nat.reduceSub, Nat.reduceMul, Int.reduceEq, Nat.reduceBEq, t77, t81, hn82, hc83, hia87])
    refine awL_st (off := 0) (xs' := [Value.int .i8 ((gt list_ x68).fBuyer), Value.int .i8 ((gt list_ x68).fItem), Value.int .i16 ((gt list_ x68).fNumber), Value.int .i16 ((gt list_ x68).fDay)]) 0 hl93 hL94 rfl (by (try simp only [go_sem, ↓reduceIte, Nat.reduceEqDiff, reduceCtorEq, Nat.reduceAdd, Nat.reduceLeDiff, Nat.reduceSub, Nat.reduceMul, Int.reduceEq, Nat.reduceBEq, t77, t81, hn82, hc83, hia87]) <;> rfl) (by (try simp only [go_sem, ↓reduceIte, Nat.reduceEqDiff, reduceCtorEq, Nat.reduceAdd, Nat.reduceLeDiff, Nat.reduceSub, Nat.reduceMul, Int.reduceEq, Nat.reduceBEq, t77, t81, hn82, hc83, hia87]) <;> rfl) (by (try simp only [go_sem, ↓reduceIte, Nat.reduceEqDiff, reduceCtorEq, Nat.reduceAdd, Nat.reduceLeDiff, Nat.reduceSub, Nat.reduceMul, Int.reduceEq, Nat.reduceBEq, t77, t81, hn82, hc83, hia87]) <;> rfl) fun H96 hl97 hL98 => ?_
    have hb99 := hL98.box 0 rfl
    (try simp only [go_sem, ↓reduceIte, Nat.reduceEqDiff, reduceCtorEq, Nat.reduceAdd, Nat.reduceLeDiff, Nat.reduceSub, Nat.reduceMul, Int.reduceEq, Nat.reduceBEq, t77, t81, hn82, hc83, hia87, hb99])
    refine aw_call (by (try simp only [go_sem, ↓reduceIte, Nat.reduceEqDiff, reduceCtorEq, Nat.reduceAdd, Nat.reduceLeDiff, Nat.reduceSub, Nat.reduceMul, Int.reduceEq, Nat.reduceBEq, t77, t81, hn82, hc83, hia87, hb99]) <;> rfl) (by (try simp only [go_sem, ↓reduceIte, Nat.reduceEqDiff, reduceCtorEq, Nat.reduceAdd, Nat.reduceLeDiff, Nat.reduceSub, Nat.reduceMul, Int.reduceEq, Nat.reduceBEq, t77, t81, hn82, hc83, hia87, hb99]) <;> rfl) (k_spec_l06Known h fun r100 h => ?_)
    (try simp only [go_sem, ↓reduceIte, Nat.reduceEqDiff, reduceCtorEq, Nat.reduceAdd, Nat.reduceLeDiff, Nat.reduceSub, Nat.reduceMul, Int.reduceEq, Nat.reduceBEq, t77, t81, hn82, hc83, hia87, hb99])
    obtain ⟨k103, hk107, hk103, h108⟩ := h
    refine aw_cut 6 (fun T' H' => ∃ x104, k103 x104 ∧ T' 29 = Value.bool x104 ∧ H' = H96) hl97 rfl ?_ (fun T109 H110 _ ho111 hj112 => ?_)
    · cases hc102 : (!r100) with
      | true =>
        simp only [opsK]
        (try simp only [go_sem, ↓reduceIte, Nat.reduceEqDiff, reduceCtorEq, Nat.reduceAdd, Nat.reduceLeDiff, Nat.reduceSub, Nat.reduceMul, Int.reduceEq, Nat.reduceBEq, t77, t81, hn82, hc83, hia87, hb99, hc102])
        exact ⟨true, h108 hc102, by (try simp only [go_sem, ↓reduceIte, Nat.reduceEqDiff, reduceCtorEq, Nat.reduceAdd, Nat.reduceLeDiff, Nat.reduceSub, Nat.reduceMul, Int.reduceEq, Nat.reduceBEq]), rfl⟩
      | false =>
        simp only [opsK]
        have h := hk103 hc102
        (try simp only [go_sem, ↓reduceIte, Nat.reduceEqDiff, reduceCtorEq, Nat.reduceAdd, Nat.reduceLeDiff, Nat.reduceSub, Nat.reduceMul, Int.reduceEq, Nat.reduceBEq, t77, t81, hn82, hc83, hia87, hc102, hb99])
        refine aw_call (by (try simp only [go_sem, ↓reduceIte, Nat.reduceEqDiff, reduceCtorEq, Nat.reduceAdd, Nat.reduceLeDiff, Nat.reduceSub, Nat.reduceMul, Int.reduceEq, Nat.reduceBEq, t77, t81, hn82, hc83, hia87, hc102, hb99]) <;> rfl) (by (try simp only [go_sem, ↓reduceIte, Nat.reduceEqDiff, reduceCtorEq, Nat.reduceAdd, Nat.reduceLeDiff, Nat.reduceSub, Nat.reduceMul, Int.reduceEq, Nat.reduceBEq, t77, t81, hn82, hc83, hia87, hc102, hb99]) <;> rfl) (k_spec_l00In h fun r105 h => ?_)
        (try simp only [go_sem, ↓reduceIte, Nat.reduceEqDiff, reduceCtorEq, Nat.reduceAdd, Nat.reduceLeDiff, Nat.reduceSub, Nat.reduceMul, Int.reduceEq, Nat.reduceBEq, t77, t81, hn82, hc83, hia87, hc102, hb99])
        exact ⟨(!r105), h, by (try simp only [go_sem, ↓reduceIte, Nat.reduceEqDiff, reduceCtorEq, Nat.reduceAdd, Nat.reduceLeDiff, Nat.reduceSub, Nat.reduceMul, Int.reduceEq, Nat.reduceBEq, t77, t81, hn82, hc83, hia87, hc102, hb99]), rfl⟩
    obtain ⟨x104, h, t113, hH114⟩ := hj112
    rw [hH114]
    have h := hk107 x104 h
    have t115 : T109 0 = vlist_ := by rw [ho111.get rfl]; (try simp only [go_sem, ↓reduceIte, Nat.reduceEqDiff, reduceCtorEq, Nat.reduceAdd, Nat.reduceLeDiff, Nat.reduceSub, Nat.reduceMul, Int.reduceEq, Nat.reduceBEq, t77, t81, hn82, hc83, hia87, hb99])
    have t116 : T109 3 = Value.int .i64 x68 := by rw [ho111.get rfl]; (try simp only [go_sem, ↓reduceIte, Nat.reduceEqDiff, reduceCtorEq, Nat.reduceAdd, Nat.reduceLeDiff, Nat.reduceSub, Nat.reduceMul, Int.reduceEq, Nat.reduceBEq, t77, t81, hn82, hc83, hia87, hb99])
    have t117 : T109 4 = Value.pointer (some ⟨b91, 0, none⟩) := by rw [ho111.get rfl]; (try simp only [go_sem, ↓reduceIte, Nat.reduceEqDiff, reduceCtorEq, Nat.reduceAdd, Nat.reduceLeDiff, Nat.reduceSub, Nat.reduceMul, Int.reduceEq, Nat.reduceBEq, t77, t81, hn82, hc83, hia87, hb99])
    (try simp only [go_sem, ↓reduceIte, Nat.reduceEqDiff, reduceCtorEq, Nat.reduceAdd, Nat.reduceLeDiff, Nat.reduceSub, Nat.reduceMul, Int.reduceEq, Nat.reduceBEq, t115, t116, t117, t113, hn82, hc83, hia87, hb99])
    obtain ⟨k119, hk123, hk119, h124⟩ := h
    refine aw_cut 6 (fun T' H' => ∃ x120, k119 x120 ∧ T' 36 = Value.bool x120 ∧ H' = H96) hl97 rfl ?_ (fun T125 H126 _ ho127 hj128 => ?_)
    · cases hc118 : x104 with
      | true =>
        simp only [opsK]
        (try simp only [go_sem, ↓reduceIte, Nat.reduceEqDiff, reduceCtorEq, Nat.reduceAdd, Nat.reduceLeDiff, Nat.reduceSub, Nat.reduceMul, Int.reduceEq, Nat.reduceBEq, t115, t116, t117, t113, hn82, hc83, hia87, hb99, hc118])
        exact ⟨true, h124 hc118, by (try simp only [go_sem, ↓reduceIte, Nat.reduceEqDiff, reduceCtorEq, Nat.reduceAdd, Nat.reduceLeDiff, Nat.reduceSub, Nat.reduceMul, Int.reduceEq, Nat.reduceBEq]), rfl⟩
      | false =>
        simp only [opsK]
        have h := hk119 hc118
        (try simp only [go_sem, ↓reduceIte, Nat.reduceEqDiff, reduceCtorEq, Nat.reduceAdd, Nat.reduceLeDiff, Nat.reduceSub, Nat.reduceMul, Int.reduceEq, Nat.reduceBEq, t115, t116, t117, t113, hn82, hc83, hia87, hc118, hb99])
        refine aw_call (by (try simp only [go_sem, ↓reduceIte, Nat.reduceEqDiff, reduceCtorEq, Nat.reduceAdd, Nat.reduceLeDiff, Nat.reduceSub, Nat.reduceMul, Int.reduceEq, Nat.reduceBEq, t115, t116, t117, t113, hn82, hc83, hia87, hc118, hb99]) <;> rfl) (by (try simp only [go_sem, ↓reduceIte, Nat.reduceEqDiff, reduceCtorEq, Nat.reduceAdd, Nat.reduceLeDiff, Nat.reduceSub, Nat.reduceMul, Int.reduceEq, Nat.reduceBEq, t115, t116, t117, t113, hn82, hc83, hia87, hc118, hb99]) <;> rfl) (k_spec_l00In h fun r121 h => ?_)
        (try simp only [go_sem, ↓reduceIte, Nat.reduceEqDiff, reduceCtorEq, Nat.reduceAdd, Nat.reduceLeDiff, Nat.reduceSub, Nat.reduceMul, Int.reduceEq, Nat.reduceBEq, t115, t116, t117, t113, hn82, hc83, hia87, hc118, hb99])
        exact ⟨(!r121), h, by (try simp only [go_sem, ↓reduceIte, Nat.reduceEqDiff, reduceCtorEq, Nat.reduceAdd, Nat.reduceLeDiff, Nat.reduceSub, Nat.reduceMul, Int.reduceEq, Nat.reduceBEq, t115, t116, t117, t113, hn82, hc83, hia87, hc118, hb99]), rfl⟩
    obtain ⟨x120, h, t129, hH130⟩ := hj128
    rw [hH130]
    have h := hk123 x120 h
    have t131 : T125 0 = vlist_ := by rw [ho127.get rfl]; (try simp only [go_sem, ↓reduceIte, Nat.reduceEqDiff, reduceCtorEq, Nat.reduceAdd, Nat.reduceLeDiff, Nat.reduceSub, Nat.reduceMul, Int.reduceEq, Nat.reduceBEq, t115, t116, t117, t113, hn82, hc83, hia87, hb99])
    have t132 : T125 3 = Value.int .i64 x68 := by rw [ho127.get rfl]; (try simp only [go_sem, ↓reduceIte, Nat.reduceEqDiff, reduceCtorEq, Nat.reduceAdd, Nat.reduceLeDiff, Nat.reduceSub, Nat.reduceMul, Int.reduceEq, Nat.reduceBEq, t115, t116, t117, t113, hn82, hc83, hia87, hb99])
    (try simp only [go_sem, ↓reduceIte, Nat.reduceEqDiff, reduceCtorEq, Nat.reduceAdd, Nat.reduceLeDiff, Nat.reduceSub, Nat.reduceMul, Int.reduceEq, Nat.reduceBEq, t131, t132, t129, hn82, hc83, hia87, hb99])
    cases hc133 : x120 with
    | true =>
      have h := h.1 hc133
      (try simp only [go_sem, ↓reduceIte, Nat.reduceEqDiff, reduceCtorEq, Nat.reduceAdd, Nat.reduceLeDiff, Nat.reduceSub, Nat.reduceMul, Int.reduceEq, Nat.reduceBEq, t131, t132, t129, hn82, hc83, hia87, hc133, hb99])
      exact retQ_r1 (by (try simp only [go_sem, ↓reduceIte, Nat.reduceEqDiff, reduceCtorEq, Nat.reduceAdd, Nat.reduceLeDiff, Nat.reduceSub, Nat.reduceMul, Int.reduceEq, Nat.reduceBEq, t131, t132, t129, hn82, hc83, hia87, hc133, hb99]) <;> rfl) H hL98.sub (hK _ h)
    | false =>
      have h := h.2 hc133
      obtain ⟨m79, hm80, h⟩ := h
      (try simp only [go_sem, ↓reduceIte, Nat.reduceEqDiff, reduceCtorEq, Nat.reduceAdd, Nat.reduceLeDiff, Nat.reduceSub, Nat.reduceMul, Int.reduceEq, Nat.reduceBEq, t131, t132, t129, hn82, hc83, hia87, hc133, hb99])
      exact ⟨m79, H96, hm80, Hp.sub.refl _, (IntKind.i64.wrap (x68 + 1)), h, (by (try simp only [go_sem, ↓reduceIte, Nat.reduceEqDiff, reduceCtorEq, Nat.reduceAdd, Nat.reduceLeDiff, Nat.reduceSub, Nat.reduceMul, Int.reduceEq, Nat.reduceBEq, t131, t132, t129, hn82, hc83, hia87, hc133, hb99]) <;> rfl), (hL98.sel [] (by decide))⟩
  | false =>
    have h := h.2 hc83
    have hn134 := rlist_.len
    (try simp only [go_sem, ↓reduceIte, Nat.reduceEqDiff, reduceCtorEq, Nat.reduceAdd, Nat.reduceLeDiff, Nat.reduceSub, Nat.reduceMul, Int.reduceEq, Nat.reduceBEq, t77, t81, hn82, hc83, hn134])
    exact retQ_r1 (by (try simp only [go_sem, ↓reduceIte, Nat.reduceEqDiff, reduceCtorEq, Nat.reduceAdd, Nat.reduceLeDiff, Nat.reduceSub, Nat.reduceMul, Int.reduceEq, Nat.reduceBEq, t77, t81, hn82, hc83, hn134]) <;> rfl) H hL75.sub (hK _ h)
def w_spec_l06Asked (orders_ : (List S_Order)) (returns_ : (List S_Return)) (fine_ : Bool) (Q : Int → Prop) : Prop := orders_.length ≤ 1152921504606846976 → returns_.length ≤ 1152921504606846976 → (w_spec_l06Orders orders_ fun r1 => (∃ k4 : Bool → Prop, (∀ x5, k4 x5 → ((x5 = true → Q 1) ∧ (x5 = false → (((!fine_) = true → Q 2) ∧ ((!fine_) = false → Q 0))))) ∧ ((!r1) = false → (w_spec_l06Returns returns_ fun r6 => k4 (!r6))) ∧ ((!r1) = true → k4 true)))
theorem k_spec_l06Asked {orders_ : (List S_Order)} {returns_ : (List S_Return)} {fine_ : Bool} {Q : Int → Prop} (h : w_spec_l06Asked orders_ returns_ fine_ Q) {H : Hp} {vorders_ : Value} (rorders_ : SlR R_Order 5 H orders_ vorders_) {vreturns_ : Value} (rreturns_ : SlR R_Return 4 H returns_ vreturns_) {K : Value → Hp → Prop} (hK : ∀ (r0 : Int), Q r0 → K (Value.int .i64 r0) H) :
    ACalls Go.Proofs.Try.prog n_spec_l06Asked #[vorders_, vreturns_, Value.bool fine_] H K := by
  unfold w_spec_l06Asked at h
  have h := h rorders_.le
  have h := h rreturns_.le
  refine acalls_go fn_spec_l06Asked rfl fun hl => ?_
  simp only [c_spec_l06Asked]
  have hL := Loc.nil H
  (try simp only [go_sem, ↓reduceIte, Nat.reduceEqDiff, reduceCtorEq, Nat.reduceAdd, Nat.reduceLeDiff, Nat.reduceSub, Nat.reduceMul, Int.reduceEq, Nat.reduceBEq])
  refine aw_call (by (try simp only [go_sem, ↓reduceIte, Nat.reduceEqDiff, reduceCtorEq, Nat.reduceAdd, Nat.reduceLeDiff, Nat.reduceSub, Nat.reduceMul, Int.reduceEq, Nat.reduceBEq]) <;> rfl) (by (try simp only [go_sem, ↓reduceIte, Nat.reduceEqDiff, reduceCtorEq, Nat.reduceAdd, Nat.reduceLeDiff, Nat.reduceSub, Nat.reduceMul, Int.reduceEq, Nat.reduceBEq]) <;> rfl) (k_spec_l06Orders h (rorders_.sub R_Order.ok hL.sub) fun r1 h => ?_)
  (try simp only [go_sem, ↓reduceIte, Nat.reduceEqDiff, reduceCtorEq, Nat.reduceAdd, Nat.reduceLeDiff, Nat.reduceSub, Nat.reduceMul, Int.reduceEq, Nat.reduceBEq])
  obtain ⟨k4, hk8, hk4, h9⟩ := h
  refine aw_cut 4 (fun T' H' => ∃ x5, k4 x5 ∧ T' 14 = Value.bool x5 ∧ H' = H) hl rfl ?_ (fun T10 H11 _ ho12 hj13 => ?_)
  · cases hc3 : (!r1) with
    | true =>
      simp only [opsK]
      (try simp only [go_sem, ↓reduceIte, Nat.reduceEqDiff, reduceCtorEq, Nat.reduceAdd, Nat.reduceLeDiff, Nat.reduceSub, Nat.reduceMul, Int.reduceEq, Nat.reduceBEq, hc3])
      exact ⟨true, h9 hc3, by (try simp only [go_sem, ↓reduceIte, Nat.reduceEqDiff, reduceCtorEq, Nat.reduceAdd, Nat.reduceLeDiff, Nat.reduceSub, Nat.reduceMul, Int.reduceEq, Nat.reduceBEq]), rfl⟩
    | false =>
      simp only [opsK]
      have h := hk4 hc3
      (try simp only [go_sem, ↓reduceIte, Nat.reduceEqDiff, reduceCtorEq, Nat.reduceAdd, Nat.reduceLeDiff, Nat.reduceSub, Nat.reduceMul, Int.reduceEq, Nat.reduceBEq, hc3])
      refine aw_call (by (try simp only [go_sem, ↓reduceIte, Nat.reduceEqDiff, reduceCtorEq, Nat.reduceAdd, Nat.reduceLeDiff, Nat.reduceSub, Nat.reduceMul, Int.reduceEq, Nat.reduceBEq, hc3]) <;> rfl) (by (try simp only [go_sem, ↓reduceIte, Nat.reduceEqDiff, reduceCtorEq, Nat.reduceAdd, Nat.reduceLeDiff, Nat.reduceSub, Nat.reduceMul, Int.reduceEq, Nat.reduceBEq, hc3]) <;> rfl) (k_spec_l06Returns h (rreturns_.sub R_Return.ok hL.sub) fun r6 h => ?_)
      (try simp only [go_sem, ↓reduceIte, Nat.reduceEqDiff, reduceCtorEq, Nat.reduceAdd, Nat.reduceLeDiff, Nat.reduceSub, Nat.reduceMul, Int.reduceEq, Nat.reduceBEq, hc3])
      exact ⟨(!r6), h, by (try simp only [go_sem, ↓reduceIte, Nat.reduceEqDiff, reduceCtorEq, Nat.reduceAdd, Nat.reduceLeDiff, Nat.reduceSub, Nat.reduceMul, Int.reduceEq, Nat.reduceBEq, hc3]), rfl⟩
  obtain ⟨x5, h, t14, hH15⟩ := hj13
  rw [hH15]
  have h := hk8 x5 h
  have t16 : T10 2 = Value.bool fine_ := by rw [ho12.get rfl]; (try simp only [go_sem, ↓reduceIte, Nat.reduceEqDiff, reduceCtorEq, Nat.reduceAdd, Nat.reduceLeDiff, Nat.reduceSub, Nat.reduceMul, Int.reduceEq, Nat.reduceBEq])
  (try simp only [go_sem, ↓reduceIte, Nat.reduceEqDiff, reduceCtorEq, Nat.reduceAdd, Nat.reduceLeDiff, Nat.reduceSub, Nat.reduceMul, Int.reduceEq, Nat.reduceBEq, t16, t14])
  cases hc17 : x5 with
  | true =>
    have h := h.1 hc17
    (try simp only [go_sem, ↓reduceIte, Nat.reduceEqDiff, reduceCtorEq, Nat.reduceAdd, Nat.reduceLeDiff, Nat.reduceSub, Nat.reduceMul, Int.reduceEq, Nat.reduceBEq, t16, t14, hc17])
    exact retQ_r1 (by (try simp only [go_sem, ↓reduceIte, Nat.reduceEqDiff, reduceCtorEq, Nat.reduceAdd, Nat.reduceLeDiff, Nat.reduceSub, Nat.reduceMul, Int.reduceEq, Nat.reduceBEq, t16, t14, hc17]) <;> rfl) H hL.sub (hK _ h)
  | false =>
    have h := h.2 hc17
    (try simp only [go_sem, ↓reduceIte, Nat.reduceEqDiff, reduceCtorEq, Nat.reduceAdd, Nat.reduceLeDiff, Nat.reduceSub, Nat.reduceMul, Int.reduceEq, Nat.reduceBEq, t16, t14, hc17])
    cases hc18 : (!fine_) with
    | true =>
      have h := h.1 hc18
      (try simp only [go_sem, ↓reduceIte, Nat.reduceEqDiff, reduceCtorEq, Nat.reduceAdd, Nat.reduceLeDiff, Nat.reduceSub, Nat.reduceMul, Int.reduceEq, Nat.reduceBEq, t16, t14, hc17, hc18])
      exact retQ_r1 (by (try simp only [go_sem, ↓reduceIte, Nat.reduceEqDiff, reduceCtorEq, Nat.reduceAdd, Nat.reduceLeDiff, Nat.reduceSub, Nat.reduceMul, Int.reduceEq, Nat.reduceBEq, t16, t14, hc17, hc18]) <;> rfl) H hL.sub (hK _ h)
    | false =>
      have h := h.2 hc18
      (try simp only [go_sem, ↓reduceIte, Nat.reduceEqDiff, reduceCtorEq, Nat.reduceAdd, Nat.reduceLeDiff, Nat.reduceSub, Nat.reduceMul, Int.reduceEq, Nat.reduceBEq, t16, t14, hc17, hc18])
      exact retQ_r1 (by (try simp only [go_sem, ↓reduceIte, Nat.reduceEqDiff, reduceCtorEq, Nat.reduceAdd, Nat.reduceLeDiff, Nat.reduceSub, Nat.reduceMul, Int.reduceEq, Nat.reduceBEq, t16, t14, hc17, hc18]) <;> rfl) H hL.sub (hK _ h)
def w_spec_l06Can (o_ : S_Order) (x_ : S_Return) (days_ : Int) (Q : Bool → Prop) : Prop := (∀ z38, z38 = ((((decide (o_.fBuyer = x_.fBuyer)) && (decide (o_.fItem = x_.fItem))) && (decide (o_.fDay ≤ x_.fDay))) && (decide ((IntKind.i64.wrap ((IntKind.i64.wrap x_.fDay) - (IntKind.i64.wrap o_.fDay))) ≤ days_))) → Q z38)
theorem k_spec_l06Can {o_ : S_Order} {x_ : S_Return} {days_ : Int} {Q : Bool → Prop} (h : w_spec_l06Can o_ x_ days_ Q) {H : Hp} {bo_ oo_ : Nat} {cso_ : List Value} (hbo_ : rdObj (H bo_) oo_ 5 = some cso_) (ro_ : R_Order H o_ cso_) {bx_ ox_ : Nat} {csx_ : List Value} (hbx_ : rdObj (H bx_) ox_ 4 = some csx_) (rx_ : R_Return H x_ csx_) {K : Value → Hp → Prop} (hK : ∀ (r0 : Bool), Q r0 → K (Value.bool r0) H) :
    ACalls Go.Proofs.Try.prog n_spec_l06Can #[.pointer (some ⟨bo_, oo_, none⟩), .pointer (some ⟨bx_, ox_, none⟩), Value.int .i64 days_] H K := by
  unfold w_spec_l06Can at h
  obtain rfl : cso_ = [Value.int .i8 o_.fBuyer, Value.int .i8 o_.fItem, Value.int .i16 o_.fNumber, Value.int .i16 o_.fPrice, Value.int .i16 o_.fDay] := ro_
  obtain rfl : csx_ = [Value.int .i8 x_.fBuyer, Value.int .i8 x_.fItem, Value.int .i16 x_.fNumber, Value.int .i16 x_.fDay] := rx_
  refine acalls_go fn_spec_l06Can rfl fun hl => ?_
  simp only [c_spec_l06Can]
  have hL := Loc.nil H
  have hrd1 := rd_sub hL.sub hbo_
  have hrp2 : rdObj (H bo_) oo_ 1 = some [Value.int .i8 o_.fBuyer] := rd_part (k := 0) (m := 1) hrd1 (by omega)
  have hrd3 := rd_sub hL.sub hbx_
  have hrp4 : rdObj (H bx_) ox_ 1 = some [Value.int .i8 x_.fBuyer] := rd_part (k := 0) (m := 1) hrd3 (by omega)
  (try simp only [go_sem, ↓reduceIte, Nat.reduceEqDiff, reduceCtorEq, Nat.reduceAdd, Nat.reduceLeDiff, Nat.reduceSub, Nat.reduceMul, Int.reduceEq, Nat.reduceBEq, hrd1, hrp2, hrd3, hrp4])
  refine aw_cut 10 (fun T' H' => T' 26 = Value.bool ((decide (o_.fBuyer = x_.fBuyer)) && (decide (o_.fItem = x_.fItem))) ∧ H' = H) hl rfl ?_ (fun T8 H9 _ ho10 hj11 => ?_)
  · cases hc5 : (decide (o_.fBuyer = x_.fBuyer)) with
    | true =>
      simp only [opsK]
      have hrp6 : rdObj (H bo_) (oo_ + 1) 1 = some [Value.int .i8 o_.fItem] := rd_part (k := 1) (m := 1) hrd1 (by omega)
      have hrp7 : rdObj (H bx_) (ox_ + 1) 1 = some [Value.int .i8 x_.fItem] := rd_part (k := 1) (m := 1) hrd3 (by omega)
      (try simp only [go_sem, ↓reduceIte, Nat.reduceEqDiff, reduceCtorEq, Nat.reduceAdd, Nat.reduceLeDiff, Nat.reduceSub, Nat.reduceMul, Int.reduceEq, Nat.reduceBEq, hc5, hrd1, hrp2, hrd3, hrp4, hrp6, hrp7])
      exact ⟨by (try simp only [go_sem, ↓reduceIte, Nat.reduceEqDiff, reduceCtorEq, Nat.reduceAdd, Nat.reduceLeDiff, Nat.reduceSub, Nat.reduceMul, Int.reduceEq, Nat.reduceBEq, hc5, hrd1, hrp2, hrd3, hrp4, hrp6, hrp7, Bool.false_and, Bool.true_or, Bool.false_or]), rfl⟩
    | false =>
      simp only [opsK]
      (try simp only [go_sem, ↓reduceIte, Nat.reduceEqDiff, reduceCtorEq, Nat.reduceAdd, Nat.reduceLeDiff, Nat.reduceSub, Nat.reduceMul, Int.reduceEq, Nat.reduceBEq, hrd1, hrp2, hrd3, hrp4, hc5])
      exact ⟨by (try simp only [go_sem, ↓reduceIte, Nat.reduceEqDiff, reduceCtorEq, Nat.reduceAdd, Nat.reduceLeDiff, Nat.reduceSub, Nat.reduceMul, Int.reduceEq, Nat.reduceBEq, Bool.false_and, Bool.true_or, Bool.false_or]), rfl⟩
  obtain ⟨t12, hH13⟩ := hj11
  rw [hH13]
  have t14 : T8 0 = Value.pointer (some ⟨bo_, oo_, none⟩) := by rw [ho10.get rfl]; (try simp only [go_sem, ↓reduceIte, Nat.reduceEqDiff, reduceCtorEq, Nat.reduceAdd, Nat.reduceLeDiff, Nat.reduceSub, Nat.reduceMul, Int.reduceEq, Nat.reduceBEq, hrd1, hrp2, hrd3, hrp4])
  have t15 : T8 1 = Value.pointer (some ⟨bx_, ox_, none⟩) := by rw [ho10.get rfl]; (try simp only [go_sem, ↓reduceIte, Nat.reduceEqDiff, reduceCtorEq, Nat.reduceAdd, Nat.reduceLeDiff, Nat.reduceSub, Nat.reduceMul, Int.reduceEq, Nat.reduceBEq, hrd1, hrp2, hrd3, hrp4])
  have t16 : T8 2 = Value.int .i64 days_ := by rw [ho10.get rfl]; (try simp only [go_sem, ↓reduceIte, Nat.reduceEqDiff, reduceCtorEq, Nat.reduceAdd, Nat.reduceLeDiff, Nat.reduceSub, Nat.reduceMul, Int.reduceEq, Nat.reduceBEq, hrd1, hrp2, hrd3, hrp4])
  (try simp only [go_sem, ↓reduceIte, Nat.reduceEqDiff, reduceCtorEq, Nat.reduceAdd, Nat.reduceLeDiff, Nat.reduceSub, Nat.reduceMul, Int.reduceEq, Nat.reduceBEq, t14, t15, t16, t12, hrd1, hrp2, hrd3, hrp4])
  refine aw_cut 10 (fun T' H' => T' 37 = Value.bool (((decide (o_.fBuyer = x_.fBuyer)) && (decide (o_.fItem = x_.fItem))) && (decide (o_.fDay ≤ x_.fDay))) ∧ H' = H) hl rfl ?_ (fun T20 H21 _ ho22 hj23 => ?_)
  · cases hc17 : ((decide (o_.fBuyer = x_.fBuyer)) && (decide (o_.fItem = x_.fItem))) with
    | true =>
      simp only [opsK]
      have hrp18 : rdObj (H bo_) (oo_ + 4) 1 = some [Value.int .i16 o_.fDay] := rd_part (k := 4) (m := 1) hrd1 (by omega)
      have hrp19 : rdObj (H bx_) (ox_ + 3) 1 = some [Value.int .i16 x_.fDay] := rd_part (k := 3) (m := 1) hrd3 (by omega)
      (try simp only [go_sem, ↓reduceIte, Nat.reduceEqDiff, reduceCtorEq, Nat.reduceAdd, Nat.reduceLeDiff, Nat.reduceSub, Nat.reduceMul, Int.reduceEq, Nat.reduceBEq, t14, t15, t16, t12, hc17, hrd1, hrp2, hrd3, hrp4, hrp18, hrp19])
      exact ⟨by (try simp only [go_sem, ↓reduceIte, Nat.reduceEqDiff, reduceCtorEq, Nat.reduceAdd, Nat.reduceLeDiff, Nat.reduceSub, Nat.reduceMul, Int.reduceEq, Nat.reduceBEq, t14, t15, t16, t12, hc17, hrd1, hrp2, hrd3, hrp4, hrp18, hrp19, Bool.false_and, Bool.true_or, Bool.false_or]), rfl⟩
    | false =>
      simp only [opsK]
      (try simp only [go_sem, ↓reduceIte, Nat.reduceEqDiff, reduceCtorEq, Nat.reduceAdd, Nat.reduceLeDiff, Nat.reduceSub, Nat.reduceMul, Int.reduceEq, Nat.reduceBEq, t14, t15, t16, t12, hrd1, hrp2, hrd3, hrp4, hc17])
      exact ⟨by (try simp only [go_sem, ↓reduceIte, Nat.reduceEqDiff, reduceCtorEq, Nat.reduceAdd, Nat.reduceLeDiff, Nat.reduceSub, Nat.reduceMul, Int.reduceEq, Nat.reduceBEq, Bool.false_and, Bool.true_or, Bool.false_or]), rfl⟩
  obtain ⟨t24, hH25⟩ := hj23
  rw [hH25]
  have t26 : T20 0 = Value.pointer (some ⟨bo_, oo_, none⟩) := by rw [ho22.get rfl]; (try simp only [go_sem, ↓reduceIte, Nat.reduceEqDiff, reduceCtorEq, Nat.reduceAdd, Nat.reduceLeDiff, Nat.reduceSub, Nat.reduceMul, Int.reduceEq, Nat.reduceBEq, t14, t15, t16, t12, hrd1, hrp2, hrd3, hrp4])
  have t27 : T20 1 = Value.pointer (some ⟨bx_, ox_, none⟩) := by rw [ho22.get rfl]; (try simp only [go_sem, ↓reduceIte, Nat.reduceEqDiff, reduceCtorEq, Nat.reduceAdd, Nat.reduceLeDiff, Nat.reduceSub, Nat.reduceMul, Int.reduceEq, Nat.reduceBEq, t14, t15, t16, t12, hrd1, hrp2, hrd3, hrp4])
  have t28 : T20 2 = Value.int .i64 days_ := by rw [ho22.get rfl]; (try simp only [go_sem, ↓reduceIte, Nat.reduceEqDiff, reduceCtorEq, Nat.reduceAdd, Nat.reduceLeDiff, Nat.reduceSub, Nat.reduceMul, Int.reduceEq, Nat.reduceBEq, t14, t15, t16, t12, hrd1, hrp2, hrd3, hrp4])
  (try simp only [go_sem, ↓reduceIte, Nat.reduceEqDiff, reduceCtorEq, Nat.reduceAdd, Nat.reduceLeDiff, Nat.reduceSub, Nat.reduceMul, Int.reduceEq, Nat.reduceBEq, t26, t27, t28, t24, hrd1, hrp2, hrd3, hrp4])
  refine aw_cut 14 (fun T' H' => T' 52 = Value.bool ((((decide (o_.fBuyer = x_.fBuyer)) && (decide (o_.fItem = x_.fItem))) && (decide (o_.fDay ≤ x_.fDay))) && (decide ((IntKind.i64.wrap ((IntKind.i64.wrap x_.fDay) - (IntKind.i64.wrap o_.fDay))) ≤ days_))) ∧ H' = H) hl rfl ?_ (fun T32 H33 _ ho34 hj35 => ?_)
  · cases hc29 : (((decide (o_.fBuyer = x_.fBuyer)) && (decide (o_.fItem = x_.fItem))) && (decide (o_.fDay ≤ x_.fDay))) with
    | true =>
      simp only [opsK]
      have hrp30 : rdObj (H bx_) (ox_ + 3) 1 = some [Value.int .i16 x_.fDay] := rd_part (k := 3) (m := 1) hrd3 (by omega)
      have hrp31 : rdObj (H bo_) (oo_ + 4) 1 = some [Value.int .i16 o_.fDay] := rd_part (k := 4) (m := 1) hrd1 (by omega)
      (try simp only [go_sem, ↓reduceIte, Nat.reduceEqDiff, reduceCtorEq, Nat.reduceAdd, Nat.reduceLeDiff, Nat.reduceSub, Nat.reduceMul, Int.reduceEq, Nat.reduceBEq, t26, t27, t28, t24, hc29, hrd1, hrp2, hrd3, hrp4, hrp30, hrp31])
      exact ⟨by (try simp only [go_sem, ↓reduceIte, Nat.reduceEqDiff, reduceCtorEq, Nat.reduceAdd, Nat.reduceLeDiff, Nat.reduceSub, Nat.reduceMul, Int.reduceEq, Nat.reduceBEq, t26, t27, t28, t24, hc29, hrd1, hrp2, hrd3, hrp4, hrp30, hrp31, Bool.false_and, Bool.true_or, Bool.false_or]), rfl⟩
    | false =>
      simp only [opsK]
      (try simp only [go_sem, ↓reduceIte, Nat.reduceEqDiff, reduceCtorEq, Nat.reduceAdd, Nat.reduceLeDiff, Nat.reduceSub, Nat.reduceMul, Int.reduceEq, Nat.reduceBEq, t26, t27, t28, t24, hrd1, hrp2, hrd3, hrp4, hc29])
      exact ⟨by (try simp only [go_sem, ↓reduceIte, Nat.reduceEqDiff, reduceCtorEq, Nat.reduceAdd, Nat.reduceLeDiff, Nat.reduceSub, Nat.reduceMul, Int.reduceEq, Nat.reduceBEq, Bool.false_and, Bool.true_or, Bool.false_or]), rfl⟩
  obtain ⟨t36, hH37⟩ := hj35
  rw [hH37]
  (try simp only [go_sem, ↓reduceIte, Nat.reduceEqDiff, reduceCtorEq, Nat.reduceAdd, Nat.reduceLeDiff, Nat.reduceSub, Nat.reduceMul, Int.reduceEq, Nat.reduceBEq, t36, hrd1, hrp2, hrd3, hrp4])
  obtain ⟨z38, hz39⟩ : ∃ z, z = ((((decide (o_.fBuyer = x_.fBuyer)) && (decide (o_.fItem = x_.fItem))) && (decide (o_.fDay ≤ x_.fDay))) && (decide ((IntKind.i64.wrap ((IntKind.i64.wrap x_.fDay) - (IntKind.i64.wrap o_.fDay))) ≤ days_))) := ⟨_, rfl⟩
  simp only [← hz39]
  have h := h z38 hz39
  (try simp only [go_sem, ↓reduceIte, Nat.reduceEqDiff, reduceCtorEq, Nat.reduceAdd, Nat.reduceLeDiff, Nat.reduceSub, Nat.reduceMul, Int.reduceEq, Nat.reduceBEq, t36, hrd1, hrp2, hrd3, hrp4])
  exact retQ_r1 (by (try simp only [go_sem, ↓reduceIte, Nat.reduceEqDiff, reduceCtorEq, Nat.reduceAdd, Nat.reduceLeDiff, Nat.reduceSub, Nat.reduceMul, Int.reduceEq, Nat.reduceBEq, t36, hrd1, hrp2, hrd3, hrp4]) <;> rfl) H hL.sub (hK _ h)
def w_spec_l00Min (a_ : Int) (b_ : Int) (Q : Int → Prop) : Prop := (((decide (a_ < b_)) = true → Q a_) ∧ ((decide (a_ < b_)) = false → Q b_))
theorem k_spec_l00Min {a_ : Int} {b_ : Int} {Q : Int → Prop} (h : w_spec_l00Min a_ b_ Q) {H : Hp} {K : Value → Hp → Prop} (hK : ∀ (r0 : Int), Q r0 → K (Value.int .i64 r0) H) :
    ACalls Go.Proofs.Try.prog n_spec_l00Min #[Value.int .i64 a_, Value.int .i64 b_] H K := by
  unfold w_spec_l00Min at h
  refine acalls_go fn_spec_l00Min rfl fun hl => ?_
  simp only [c_spec_l00Min]
  have hL := Loc.nil H
  (try simp only [go_sem, ↓reduceIte, Nat.reduceEqDiff, reduceCtorEq, Nat.reduceAdd, Nat.reduceLeDiff, Nat.reduceSub, Nat.reduceMul, Int.reduceEq, Nat.reduceBEq])
  cases hc1 : (decide (a_ < b_)) with
  | true =>
    have h := h.1 hc1
    (try simp only [go_sem, ↓reduceIte, Nat.reduceEqDiff, reduceCtorEq, Nat.reduceAdd, Nat.reduceLeDiff, Nat.reduceSub, Nat.reduceMul, Int.reduceEq, Nat.reduceBEq, hc1])
    exact retQ_r1 (by (try simp only [go_sem, ↓reduceIte, Nat.reduceEqDiff, reduceCtorEq, Nat.reduceAdd, Nat.reduceLeDiff, Nat.reduceSub, Nat.reduceMul, Int.reduceEq, Nat.reduceBEq, hc1]) <;> rfl) H hL.sub (hK _ h)
  | false =>
    have h := h.2 hc1
    (try simp only [go_sem, ↓reduceIte, Nat.reduceEqDiff, reduceCtorEq, Nat.reduceAdd, Nat.reduceLeDiff, Nat.reduceSub, Nat.reduceMul, Int.reduceEq, Nat.reduceBEq, hc1])
    exact retQ_r1 (by (try simp only [go_sem, ↓reduceIte, Nat.reduceEqDiff, reduceCtorEq, Nat.reduceAdd, Nat.reduceLeDiff, Nat.reduceSub, Nat.reduceMul, Int.reduceEq, Nat.reduceBEq, hc1]) <;> rfl) H hL.sub (hK _ h)
def w_spec_l06Matches (orders_ : (List S_Order)) (returns_ : (List S_Return)) (days_ : Int) (Q : (List S_Match) → Prop) : Prop := orders_.length ≤ 1152921504606846976 → returns_.length ≤ 1152921504606846976 → (∃ I8989 : Nat → Int → (List Int) → (List S_Match) → Prop, (∃ m, I8989 m 0 ([] : List Int) ([] : List S_Match)) ∧ (∀ (m8999 : Nat) (x8978 : Int) (xs8979 : List Int) (xs8984 : List S_Match), I8989 m8999 x8978 xs8979 xs8984 → (((decide (x8978 < (orders_.length : Int))) = true → (In x8978 orders_.length ∧ ((xs8979.length + 1) * 2 ≤ 140737488355328 ∧ (∃ m9000, m9000 < m8999 ∧ I8989 m9000 (IntKind.i64.wrap (x8978 + 1)) (xs8979 ++ [(gt orders_ x8978).fNumber]) xs8984)))) ∧ ((decide (x8978 < (orders_.length : Int))) = false → (∃ I11994 : Nat → Int → (List Int) → (List S_Match) → Prop, (∃ m, I11994 m 0 xs8979 xs8984) ∧ (∀ (m12004 : Nat) (x11983 : Int) (xs11984 : List Int) (xs11989 : List S_Match), I11994 m12004 x11983 xs11984 xs11989 → (((decide (x11983 < (returns_.length : Int))) = true → (In x11983 returns_.length ∧ (∃ I12991 : Nat → Int → (List Int) → (List S_Match) → Prop, (∃ m, I12991 m ((gt returns_ x11983).fNumber) xs11984 xs11989) ∧ (∀ (m13001 : Nat) (x12980 : Int) (xs12981 : List Int) (xs12986 : List S_Match), I12991 m13001 x12980 xs12981 xs12986 → (((decide (x12980 > 0)) = true → (∃ I13320 : Nat → Int → Int → (List Int) → (List S_Match) → Prop, (∃ m, I13320 m (-1) 0 xs12981 xs12986) ∧ (∀ (m13330 : Nat) (x13308 : Int) (x13309 : Int) (xs13310 : List Int) (xs13315 : List S_Match), I13320 m13330 x13308 x13309 xs13310 xs13315 → (((decide (x13309 < (orders_.length : Int))) = true → (In x13309 xs13310.length ∧ (∃ k13352 : Bool → Prop, (∀ x13353, k13352 x13353 → ((x13353 = true → (((decide (x13308 < 0)) = false → (In x13309 orders_.length ∧ (In x13308 orders_.length ∧ True))) ∧ True)) ∧ (((x13353 && ((decide (x13308 < 0)) || (decide ((gt orders_ x13309).fDay < (gt orders_ x13308).fDay)))) = true → (∃ m13331, m13331 < m13330 ∧ I13320 m13331 x13309 (IntKind.i64.wrap (x13309 + 1)) xs13310 xs13315)) ∧ ((x13353 && ((decide (x13308 < 0)) || (decide ((gt orders_ x13309).fDay < (gt orders_ x13308).fDay)))) = false → (∃ m13331, m13331 < m13330 ∧ I13320 m13331 x13308 (IntKind.i64.wrap (x13309 + 1)) xs13310 xs13315))))) ∧ ((decide ((gt xs13310 x13309) > 0)) = true → (In x13309 orders_.length ∧ (w_spec_l06Can (gt orders_ x13309) (gt returns_ x11983) days_ fun r13367 => k13352 r13367))) ∧ ((decide ((gt xs13310 x13309) > 0)) = false → k13352 false)))) ∧ ((decide (x13309 < (orders_.length : Int))) = false → (((decide (x13308 < 0)) = true → (∃ m12005, m12005 < m12004 ∧ I11994 m12005 (IntKind.i64.wrap (x11983 + 1)) xs13310 xs13315)) ∧ ((decide (x13308 < 0)) = false → (In x13308 xs13310.length ∧ (w_spec_l00Min (IntKind.i64.wrap x12980) (IntKind.i64.wrap (gt xs13310 x13308)) fun r13439 => (∀ xs13445, xs13445 = (xs13310.set (x13308).toNat (IntKind.i16.wrap ((gt xs13310 x13308) - (IntKind.i16.wrap r13439)))) → ((xs13315.length + 1) * 4 ≤ 140737488355328 ∧ (∃ m13002, m13002 < m13001 ∧ I12991 m13002 (IntKind.i16.wrap (x12980 - (IntKind.i16.wrap r13439))) xs13445 (xs13315 ++ [(⟨(IntKind.i8.wrap x11983), (IntKind.i8.wrap x13308), (IntKind.i16.wrap r13439)⟩ : S_Match)]))))))))))))) ∧ ((decide (x12980 > 0)) = false → (∃ m12005, m12005 < m12004 ∧ I11994 m12005 (IntKind.i64.wrap (x11983 + 1)) xs12981 xs12986))))))) ∧ ((decide (x11983 < (returns_.length : Int))) = false → Q xs11989))))))))
theorem k_spec_l06Matches {orders_ : (List S_Order)} {returns_ : (List S_Return)} {days_ : Int} {Q : (List S_Match) → Prop} (h : w_spec_l06Matches orders_ returns_ days_ Q) {H : Hp} {vorders_ : Value} (rorders_ : SlR R_Order 5 H orders_ vorders_) {vreturns_ : Value} (rreturns_ : SlR R_Return 4 H returns_ vreturns_) {K : Value → Hp → Prop} (hK : ∀ (r0 : (List S_Match)), Q r0 → ∀ (H' : Hp) (kb0 : Option Nat) (v0 : Value) (rows0 : List (List Value)), Live H' → Loc H H' [.own kb0 131 3 v0 rows0] → Rows R_Match H r0 rows0 → K (v0) H') :
    ACalls Go.Proofs.Try.prog n_spec_l06Matches #[vorders_, vreturns_, Value.int .i64 days_] H K := by
  unfold w_spec_l06Matches at h
  have h := h rorders_.le
  have h := h rreturns_.le
  refine acalls_go fn_spec_l06Matches rfl fun hl => ?_
  simp only [c_spec_l06Matches]
  have hL := Loc.nil H
  (try simp only [go_sem, ↓reduceIte, Nat.reduceEqDiff, reduceCtorEq, Nat.reduceAdd, Nat.reduceLeDiff, Nat.reduceSub, Nat.reduceMul, Int.reduceEq, Nat.reduceBEq])
  refine awL_bsl0 3 hl hL fun b4 v5 H1 hl2 hL3 => ?_
  have hr6 : Rows R_Match H ([] : List S_Match) [] := Rows.nil R_Match H
  (try simp only [go_sem, ↓reduceIte, Nat.reduceEqDiff, reduceCtorEq, Nat.reduceAdd, Nat.reduceLeDiff, Nat.reduceSub, Nat.reduceMul, Int.reduceEq, Nat.reduceBEq])
  refine awL_bsl0 1 hl2 hL3 fun b11 v12 H8 hl9 hL10 => ?_
  have hr13 : Rows (RI .i16) H ([] : List Int) [] := Rows.nil (RI .i16) H
  (try simp only [go_sem, ↓reduceIte, Nat.reduceEqDiff, reduceCtorEq, Nat.reduceAdd, Nat.reduceLeDiff, Nat.reduceSub, Nat.reduceMul, Int.reduceEq, Nat.reduceBEq])
  obtain ⟨I8989, ⟨m0, h0⟩, hSI8989⟩ := h
  refine aw_loopM hl9 (fun m8999 T' H' => ∃ x8978 xs8979 xs8984 kb8980 v8981 rows8982 rows8987, I8989 m8999 x8978 xs8979 xs8984 ∧ T' 8 = v8981 ∧ T' 9 = Value.int .i64 x8978 ∧ Loc H H' [.own kb8980 23 1 v8981 rows8982, .own (some b4) 131 3 v5 rows8987] ∧ Rows (RI .i16) H xs8979 rows8982 ∧ Rows R_Match H xs8984 rows8987) m0 H8 (Hp.sub.refl _) ⟨0, ([] : List Int), ([] : List S_Match), (some b11), v12, [], [], h0, (by (try simp only [go_sem, ↓reduceIte, Nat.reduceEqDiff, reduceCtorEq, Nat.reduceAdd, Nat.reduceLeDiff, Nat.reduceSub, Nat.reduceMul, Int.reduceEq, Nat.reduceBEq]) <;> rfl), (by (try simp only [go_sem, ↓reduceIte, Nat.reduceEqDiff, reduceCtorEq, Nat.reduceAdd, Nat.reduceLeDiff, Nat.reduceSub, Nat.reduceMul, Int.reduceEq, Nat.reduceBEq]) <;> rfl), hL10, hr13, hr6⟩ ?_
  rintro m8999 T8992 H8991 hl8993 ho8994 ⟨x8978, xs8979, xs8984, kb8980, v8981, rows8982, rows8987, hI8996, t8997, t8998, hL8995, hr8983, hr8988⟩
  have t9002 : T8992 0 = vorders_ := by rw [ho8994.get rfl]; (try simp only [go_sem, ↓reduceIte, Nat.reduceEqDiff, reduceCtorEq, Nat.reduceAdd, Nat.reduceLeDiff, Nat.reduceSub, Nat.reduceMul, Int.reduceEq, Nat.reduceBEq])
  have t9003 : T8992 1 = vreturns_ := by rw [ho8994.get rfl]; (try simp only [go_sem, ↓reduceIte, Nat.reduceEqDiff, reduceCtorEq, Nat.reduceAdd, Nat.reduceLeDiff, Nat.reduceSub, Nat.reduceMul, Int.reduceEq, Nat.reduceBEq])
  have t9004 : T8992 2 = Value.int .i64 days_ := by rw [ho8994.get rfl]; (try simp only [go_sem, ↓reduceIte, Nat.reduceEqDiff, reduceCtorEq, Nat.reduceAdd, Nat.reduceLeDiff, Nat.reduceSub, Nat.reduceMul, Int.reduceEq, Nat.reduceBEq])
  have t9005 : T8992 7 = v5 := by rw [ho8994.get rfl]; (try simp only [go_sem, ↓reduceIte, Nat.reduceEqDiff, reduceCtorEq, Nat.reduceAdd, Nat.reduceLeDiff, Nat.reduceSub, Nat.reduceMul, Int.reduceEq, Nat.reduceBEq])
  have h := hSI8989 m8999 x8978 xs8979 xs8984 hI8996
  have hn9006 := rorders_.len
  (try simp only [go_sem, ↓reduceIte, Nat.reduceEqDiff, reduceCtorEq, Nat.reduceAdd, Nat.reduceLeDiff, Nat.reduceSub, Nat.reduceMul, Int.reduceEq, Nat.reduceBEq, t8997, t8998, t9002, t9003, t9004, t9005, hn9006])
  cases hc9007 : (decide (x8978 < (orders_.length : Int))) with
  | true =>
    have h := h.1 hc9007
    obtain ⟨hi9008, h⟩ := h
    obtain ⟨b9009, o9014, c9010, hia9011, hrd9012, hR9013⟩ := SlR.atB rorders_ hL8995.sub (k := .i64) hi9008
    obtain rfl : c9010 = [Value.int .i8 ((gt orders_ x8978).fBuyer), Value.int .i8 ((gt orders_ x8978).fItem), Value.int .i16 ((gt orders_ x8978).fNumber), Value.int .i16 ((gt orders_ x8978).fPrice), Value.int .i16 ((gt orders_ x8978).fDay)] := hR9013
    have hrp9015 : rdObj (H8991 b9009) (o9014 + 2) 1 = some [Value.int .i16 ((gt orders_ x8978).fNumber)] := rd_part (k := 2) (m := 1) hrd9012 (by omega)
    (try simp only [go_sem, ↓reduceIte, Nat.reduceEqDiff, reduceCtorEq, Nat.reduceAdd, Nat.reduceLeDiff, Nat.reduceSub, Nat.reduceMul, Int.reduceEq, Nat.reduceBEq, t8997, t8998, t9002, t9003, t9004, t9005, hn9006, hc9007, hia9011, hrd9012, hrp9015])
    refine awL_bsl1 [Value.int .i16 ((gt orders_ x8978).fNumber)] hl8993 hL8995 (by (try simp only [go_sem, ↓reduceIte, Nat.reduceEqDiff, reduceCtorEq, Nat.reduceAdd, Nat.reduceLeDiff, Nat.reduceSub, Nat.reduceMul, Int.reduceEq, Nat.reduceBEq, t8997, t8998, t9002, t9003, t9004, t9005, hn9006, hc9007, hia9011, hrd9012, hrp9015]) <;> rfl) rfl rfl fun b9019 v9020 H9016 hl9017 hL9018 => ?_
    have hr9021 : Rows (RI .i16) H [(gt orders_ x8978).fNumber] [[Value.int .i16 ((gt orders_ x8978).fNumber)]] := (Rows.nil (RI .i16) H).snoc (show (RI .i16) H ((gt orders_ x8978).fNumber) [Value.int .i16 ((gt orders_ x8978).fNumber)] from rfl)
    obtain ⟨hc9023, h⟩ := h
    (try simp only [go_sem, ↓reduceIte, Nat.reduceEqDiff, reduceCtorEq, Nat.reduceAdd, Nat.reduceLeDiff, Nat.reduceSub, Nat.reduceMul, Int.reduceEq, Nat.reduceBEq, t8997, t8998, t9002, t9003, t9004, t9005, hn9006, hc9007, hia9011])
    refine awL_app1 1 0 hl9017 hL9018 rfl rfl (by (try simp only [go_sem, ↓reduceIte, Nat.reduceEqDiff, reduceCtorEq, Nat.reduceAdd, Nat.reduceLeDiff, Nat.reduceSub, Nat.reduceMul, Int.reduceEq, Nat.reduceBEq, t8997, t8998, t9002, t9003, t9004, t9005, hn9006, hc9007, hia9011]) <;> rfl) (by (try simp only [go_sem, ↓reduceIte, Nat.reduceEqDiff, reduceCtorEq, Nat.reduceAdd, Nat.reduceLeDiff, Nat.reduceSub, Nat.reduceMul, Int.reduceEq, Nat.reduceBEq, t8997, t8998, t9002, t9003, t9004, t9005, hn9006, hc9007, hia9011]) <;> rfl) rfl (by omega) (by rw [hr8983.1]; exact hc9023) fun kb9027 v9028 H9024 hl9025 hL9026 => ?_
    have hr9029 := hr8983.snoc (show (RI .i16) H ((gt orders_ x8978).fNumber) [Value.int .i16 ((gt orders_ x8978).fNumber)] from rfl)
    obtain ⟨m9000, hm9001, h⟩ := h
    (try simp only [go_sem, ↓reduceIte, Nat.reduceEqDiff, reduceCtorEq, Nat.reduceAdd, Nat.reduceLeDiff, Nat.reduceSub, Nat.reduceMul, Int.reduceEq, Nat.reduceBEq, t8997, t8998, t9002, t9003, t9004, t9005, hn9006, hc9007, hia9011])
    exact ⟨m9000, H9024, hm9001, Hp.sub.refl _, (IntKind.i64.wrap (x8978 + 1)), (xs8979 ++ [(gt orders_ x8978).fNumber]), xs8984, kb9027, v9028, (rows8982 ++ [[Value.int .i16 ((gt orders_ x8978).fNumber)]]), rows8987, h, (by (try simp only [go_sem, ↓reduceIte, Nat.reduceEqDiff, reduceCtorEq, Nat.reduceAdd, Nat.reduceLeDiff, Nat.reduceSub, Nat.reduceMul, Int.reduceEq, Nat.reduceBEq, t8997, t8998, t9002, t9003, t9004, t9005, hn9006, hc9007, hia9011]) <;> rfl), (by (try simp only [go_sem, ↓reduceIte, Nat.reduceEqDiff, reduceCtorEq, Nat.reduceAdd, Nat.reduceLeDiff, Nat.reduceSub, Nat.reduceMul, Int.reduceEq, Nat.reduceBEq, t8997, t8998, t9002, t9003, t9004, t9005, hn9006, hc9007, hia9011]) <;> rfl), (hL9026.sel [1, 2] (by decide)), hr9029, hr8988⟩
  | false =>
    have h := h.2 hc9007
    (try simp only [go_sem, ↓reduceIte, Nat.reduceEqDiff, reduceCtorEq, Nat.reduceAdd, Nat.reduceLeDiff, Nat.reduceSub, Nat.reduceMul, Int.reduceEq, Nat.reduceBEq, t8997, t8998, t9002, t9003, t9004, t9005, hn9006, hc9007])
    obtain ⟨I11994, ⟨m0, h0⟩, hSI11994⟩ := h
    refine aw_loopM hl8993 (fun m12004 T' H' => ∃ x11983 xs11984 xs11989 rows11987 kb11990 v11991 rows11992, I11994 m12004 x11983 xs11984 xs11989 ∧ T' 7 = v11991 ∧ T' 10 = Value.int .i64 x11983 ∧ Loc H H' [.own kb8980 23 1 v8981 rows11987, .own kb11990 131 3 v11991 rows11992] ∧ Rows (RI .i16) H xs11984 rows11987 ∧ Rows R_Match H xs11989 rows11992) m0 H8991 (Hp.sub.refl _) ⟨0, xs8979, xs8984, rows8982, (some b4), v5, rows8987, h0, (by (try simp only [go_sem, ↓reduceIte, Nat.reduceEqDiff, reduceCtorEq, Nat.reduceAdd, Nat.reduceLeDiff, Nat.reduceSub, Nat.reduceMul, Int.reduceEq, Nat.reduceBEq, t8997, t8998, t9002, t9003, t9004, t9005, hn9006, hc9007]) <;> rfl), (by (try simp only [go_sem, ↓reduceIte, Nat.reduceEqDiff, reduceCtorEq, Nat.reduceAdd, Nat.reduceLeDiff, Nat.reduceSub, Nat.reduceMul, Int.reduceEq, Nat.reduceBEq, t8997, t8998, t9002, t9003, t9004, t9005, hn9006, hc9007]) <;> rfl), hL8995, hr8983, hr8988⟩ ?_
    rintro m12004 T11997 H11996 hl11998 ho11999 ⟨x11983, xs11984, xs11989, rows11987, kb11990, v11991, rows11992, hI12001, t12002, t12003, hL12000, hr11988, hr11993⟩
    have t12007 : T11997 0 = vorders_ := by rw [ho11999.get rfl]; (try simp only [go_sem, ↓reduceIte, Nat.reduceEqDiff, reduceCtorEq, Nat.reduceAdd, Nat.reduceLeDiff, Nat.reduceSub, Nat.reduceMul, Int.reduceEq, Nat.reduceBEq, t8997, t8998, t9002, t9003, t9004, t9005, hn9006, hc9007])
    have t12008 : T11997 1 = vreturns_ := by rw [ho11999.get rfl]; (try simp only [go_sem, ↓reduceIte, Nat.reduceEqDiff, reduceCtorEq, Nat.reduceAdd, Nat.reduceLeDiff, Nat.reduceSub, Nat.reduceMul, Int.reduceEq, Nat.reduceBEq, t8997, t8998, t9002, t9003, t9004, t9005, hn9006, hc9007])
    have t12009 : T11997 2 = Value.int .i64 days_ := by rw [ho11999.get rfl]; (try simp only [go_sem, ↓reduceIte, Nat.reduceEqDiff, reduceCtorEq, Nat.reduceAdd, Nat.reduceLeDiff, Nat.reduceSub, Nat.reduceMul, Int.reduceEq, Nat.reduceBEq, t8997, t8998, t9002, t9003, t9004, t9005, hn9006, hc9007])
    have t12010 : T11997 8 = v8981 := by rw [ho11999.get rfl]; (try simp only [go_sem, ↓reduceIte, Nat.reduceEqDiff, reduceCtorEq, Nat.reduceAdd, Nat.reduceLeDiff, Nat.reduceSub, Nat.reduceMul, Int.reduceEq, Nat.reduceBEq, t8997, t8998, t9002, t9003, t9004, t9005, hn9006, hc9007])
    have h := hSI11994 m12004 x11983 xs11984 xs11989 hI12001
    have hn12011 := rreturns_.len
    (try simp only [go_sem, ↓reduceIte, Nat.reduceEqDiff, reduceCtorEq, Nat.reduceAdd, Nat.reduceLeDiff, Nat.reduceSub, Nat.reduceMul, Int.reduceEq, Nat.reduceBEq, t12002, t12003, t12007, t12008, t12009, t12010, hn9006, hc9007, hn12011])
    cases hc12012 : (decide (x11983 < (returns_.length : Int))) with
    | true =>
      have h := h.1 hc12012
      obtain ⟨hi12013, h⟩ := h
      obtain ⟨b12014, o12019, c12015, hia12016, hrd12017, hR12018⟩ := SlR.atB rreturns_ hL12000.sub (k := .i64) hi12013
      obtain rfl : c12015 = [Value.int .i8 ((gt returns_ x11983).fBuyer), Value.int .i8 ((gt returns_ x11983).fItem), Value.int .i16 ((gt returns_ x11983).fNumber), Value.int .i16 ((gt returns_ x11983).fDay)] := hR12018
      have hrp12020 : rdObj (H11996 b12014) (o12019 + 2) 1 = some [Value.int .i16 ((gt returns_ x11983).fNumber)] := rd_part (k := 2) (m := 1) hrd12017 (by omega)
      (try simp only [go_sem, ↓reduceIte, Nat.reduceEqDiff, reduceCtorEq, Nat.reduceAdd, Nat.reduceLeDiff, Nat.reduceSub, Nat.reduceMul, Int.reduceEq, Nat.reduceBEq, t12002, t12003, t12007, t12008, t12009, t12010, hn9006, hc9007, hn12011, hc12012, hia12016, hrd12017, hrp12020])
      obtain ⟨I12991, ⟨m0, h0⟩, hSI12991⟩ := h
      refine aw_loopM hl11998 (fun m13001 T' H' => ∃ x12980 xs12981 xs12986 rows12984 kb12987 v12988 rows12989, I12991 m13001 x12980 xs12981 xs12986 ∧ T' 7 = v12988 ∧ T' 11 = Value.int .i16 x12980 ∧ Loc H H' [.own kb8980 23 1 v8981 rows12984, .own kb12987 131 3 v12988 rows12989] ∧ Rows (RI .i16) H xs12981 rows12984 ∧ Rows R_Match H xs12986 rows12989) m0 H11996 (Hp.sub.refl _) ⟨(gt returns_ x11983).fNumber, xs11984, xs11989, rows11987, kb11990, v11991, rows11992, h0, (by (try simp only [go_sem, ↓reduceIte, Nat.reduceEqDiff, reduceCtorEq, Nat.reduceAdd, Nat.reduceLeDiff, Nat.reduceSub, Nat.reduceMul, Int.reduceEq, Nat.reduceBEq, t12002, t12003, t12007, t12008, t12009, t12010, hn9006, hc9007, hn12011, hc12012, hia12016, hrd12017, hrp12020]) <;> rfl), (by (try simp only [go_sem, ↓reduceIte, Nat.reduceEqDiff, reduceCtorEq, Nat.reduceAdd, Nat.reduceLeDiff, Nat.reduceSub, Nat.reduceMul, Int.reduceEq, Nat.reduceBEq, t12002, t12003, t12007, t12008, t12009, t12010, hn9006, hc9007, hn12011, hc12012, hia12016, hrd12017, hrp12020]) <;> rfl), hL12000, hr11988, hr11993⟩ ?_
      rintro m13001 T12994 H12993 hl12995 ho12996 ⟨x12980, xs12981, xs12986, rows12984, kb12987, v12988, rows12989, hI12998, t12999, t13000, hL12997, hr12985, hr12990⟩
      have t13004 : T12994 0 = vorders_ := by rw [ho12996.get rfl]; (try simp only [go_sem, ↓reduceIte, Nat.reduceEqDiff, reduceCtorEq, Nat.reduceAdd, Nat.reduceLeDiff, Nat.reduceSub, Nat.reduceMul, Int.reduceEq, Nat.reduceBEq, t12002, t12003, t12007, t12008, t12009, t12010, hn9006, hc9007, hn12011, hc12012, hia12016, hrd12017, hrp12020])
      have t13005 : T12994 1 = vreturns_ := by rw [ho12996.get rfl]; (try simp only [go_sem, ↓reduceIte, Nat.reduceEqDiff, reduceCtorEq, Nat.reduceAdd, Nat.reduceLeDiff, Nat.reduceSub, Nat.reduceMul, Int.reduceEq, Nat.reduceBEq, t12002, t12003, t12007, t12008, t12009, t12010, hn9006, hc9007, hn12011, hc12012, hia12016, hrd12017, hrp12020])
      have t13006 : T12994 2 = Value.int .i64 days_ := by rw [ho12996.get rfl]; (try simp only [go_sem, ↓reduceIte, Nat.reduceEqDiff, reduceCtorEq, Nat.reduceAdd, Nat.reduceLeDiff, Nat.reduceSub, Nat.reduceMul, Int.reduceEq, Nat.reduceBEq, t12002, t12003, t12007, t12008, t12009, t12010, hn9006, hc9007, hn12011, hc12012, hia12016, hrd12017, hrp12020])
      have t13007 : T12994 8 = v8981 := by rw [ho12996.get rfl]; (try simp only [go_sem, ↓reduceIte, Nat.reduceEqDiff, reduceCtorEq, Nat.reduceAdd, Nat.reduceLeDiff, Nat.reduceSub, Nat.reduceMul, Int.reduceEq, Nat.reduceBEq, t12002, t12003, t12007, t12008, t12009, t12010, hn9006, hc9007, hn12011, hc12012, hia12016, hrd12017, hrp12020])
      have t13008 : T12994 10 = Value.int .i64 x11983 := by rw [ho12996.get rfl]; (try simp only [go_sem, ↓reduceIte, Nat.reduceEqDiff, reduceCtorEq, Nat.reduceAdd, Nat.reduceLeDiff, Nat.reduceSub, Nat.reduceMul, Int.reduceEq, Nat.reduceBEq, t12002, t12003, t12007, t12008, t12009, t12010, hn9006, hc9007, hn12011, hc12012, hia12016, hrd12017, hrp12020])
      have h := hSI12991 m13001 x12980 xs12981 xs12986 hI12998
      (try simp only [go_sem, ↓reduceIte, Nat.reduceEqDiff, reduceCtorEq, Nat.reduceAdd, Nat.reduceLeDiff, Nat.reduceSub, Nat.reduceMul, Int.reduceEq, Nat.reduceBEq, t12999, t13000, t13004, t13005, t13006, t13007, t13008, hn9006, hc9007, hn12011, hc12012, hia12016])
      cases hc13009 : (decide (x12980 > 0)) with
      | true =>
        have h := h.1 hc13009
        (try simp only [go_sem, ↓reduceIte, Nat.reduceEqDiff, reduceCtorEq, Nat.reduceAdd, Nat.reduceLeDiff, Nat.reduceSub, Nat.reduceMul, Int.reduceEq, Nat.reduceBEq, t12999, t13000, t13004, t13005, t13006, t13007, t13008, hn9006, hc9007, hn12011, hc12012, hia12016, hc13009])
        obtain ⟨I13320, ⟨m0, h0⟩, hSI13320⟩ := h
        refine aw_loopM hl12995 (fun m13330 T' H' => ∃ x13308 x13309 xs13310 xs13315 rows13313 rows13318, I13320 m13330 x13308 x13309 xs13310 xs13315 ∧ T' 12 = Value.int .i64 x13308 ∧ T' 13 = Value.int .i64 x13309 ∧ Loc H H' [.own kb8980 23 1 v8981 rows13313, .own kb12987 131 3 v12988 rows13318] ∧ Rows (RI .i16) H xs13310 rows13313 ∧ Rows R_Match H xs13315 rows13318) m0 H12993 (Hp.sub.refl _) ⟨(-1), 0, xs12981, xs12986, rows12984, rows12989, h0, (by (try simp only [go_sem, ↓reduceIte, Nat.reduceEqDiff, reduceCtorEq, Nat.reduceAdd, Nat.reduceLeDiff, Nat.reduceSub, Nat.reduceMul, Int.reduceEq, Nat.reduceBEq, t12999, t13000, t13004, t13005, t13006, t13007, t13008, hn9006, hc9007, hn12011, hc12012, hia12016, hc13009]) <;> rfl), (by (try simp only [go_sem, ↓reduceIte, Nat.reduceEqDiff, reduceCtorEq, Nat.reduceAdd, Nat.reduceLeDiff, Nat.reduceSub, Nat.reduceMul, Int.reduceEq, Nat.reduceBEq, t12999, t13000, t13004, t13005, t13006, t13007, t13008, hn9006, hc9007, hn12011, hc12012, hia12016, hc13009]) <;> rfl), hL12997, hr12985, hr12990⟩ ?_
        rintro m13330 T13323 H13322 hl13324 ho13325 ⟨x13308, x13309, xs13310, xs13315, rows13313, rows13318, hI13327, t13328, t13329, hL13326, hr13314, hr13319⟩
        have t13333 : T13323 0 = vorders_ := by rw [ho13325.get rfl]; (try simp only [go_sem, ↓reduceIte, Nat.reduceEqDiff, reduceCtorEq, Nat.reduceAdd, Nat.reduceLeDiff, Nat.reduceSub, Nat.reduceMul, Int.reduceEq, Nat.reduceBEq, t12999, t13000, t13004, t13005, t13006, t13007, t13008, hn9006, hc9007, hn12011, hc12012, hia12016, hc13009])
        have t13334 : T13323 1 = vreturns_ := by rw [ho13325.get rfl]; (try simp only [go_sem, ↓reduceIte, Nat.reduceEqDiff, reduceCtorEq, Nat.reduceAdd, Nat.reduceLeDiff, Nat.reduceSub, Nat.reduceMul, Int.reduceEq, Nat.reduceBEq, t12999, t13000, t13004, t13005, t13006, t13007, t13008, hn9006, hc9007, hn12011, hc12012, hia12016, hc13009])
        have t13335 : T13323 2 = Value.int .i64 days_ := by rw [ho13325.get rfl]; (try simp only [go_sem, ↓reduceIte, Nat.reduceEqDiff, reduceCtorEq, Nat.reduceAdd, Nat.reduceLeDiff, Nat.reduceSub, Nat.reduceMul, Int.reduceEq, Nat.reduceBEq, t12999, t13000, t13004, t13005, t13006, t13007, t13008, hn9006, hc9007, hn12011, hc12012, hia12016, hc13009])
        have t13336 : T13323 7 = v12988 := by rw [ho13325.get rfl]; (try simp only [go_sem, ↓reduceIte, Nat.reduceEqDiff, reduceCtorEq, Nat.reduceAdd, Nat.reduceLeDiff, Nat.reduceSub, Nat.reduceMul, Int.reduceEq, Nat.reduceBEq, t12999, t13000, t13004, t13005, t13006, t13007, t13008, hn9006, hc9007, hn12011, hc12012, hia12016, hc13009])
        have t13337 : T13323 8 = v8981 := by rw [ho13325.get rfl]; (try simp only [go_sem, ↓reduceIte, Nat.reduceEqDiff, reduceCtorEq, Nat.reduceAdd, Nat.reduceLeDiff, Nat.reduceSub, Nat.reduceMul, Int.reduceEq, Nat.reduceBEq, t12999, t13000, t13004, t13005, t13006, t13007, t13008, hn9006, hc9007, hn12011, hc12012, hia12016, hc13009])
        have t13338 : T13323 10 = Value.int .i64 x11983 := by rw [ho13325.get rfl]; (try simp only [go_sem, ↓reduceIte, Nat.reduceEqDiff, reduceCtorEq, Nat.reduceAdd, Nat.reduceLeDiff, Nat.reduceSub, Nat.reduceMul, Int.reduceEq, Nat.reduceBEq, t12999, t13000, t13004, t13005, t13006, t13007, t13008, hn9006, hc9007, hn12011, hc12012, hia12016, hc13009])
        have t13339 : T13323 11 = Value.int .i16 x12980 := by rw [ho13325.get rfl]; (try simp only [go_sem, ↓reduceIte, Nat.reduceEqDiff, reduceCtorEq, Nat.reduceAdd, Nat.reduceLeDiff, Nat.reduceSub, Nat.reduceMul, Int.reduceEq, Nat.reduceBEq, t12999, t13000, t13004, t13005, t13006, t13007, t13008, hn9006, hc9007, hn12011, hc12012, hia12016, hc13009])
        have h := hSI13320 m13330 x13308 x13309 xs13310 xs13315 hI13327
        have hn13340 := rorders_.len
        (try simp only [go_sem, ↓reduceIte, Nat.reduceEqDiff, reduceCtorEq, Nat.reduceAdd, Nat.reduceLeDiff, Nat.reduceSub, Nat.reduceMul, Int.reduceEq, Nat.reduceBEq, t13328, t13329, t13333, t13334, t13335, t13336, t13337, t13338, t13339, hn9006, hc9007, hn12011, hc12012, hia12016, hc13009, hn13340])
        cases hc13341 : (decide (x13309 < (orders_.length : Int))) with
        | true =>
          have h := h.1 hc13341
          obtain ⟨hi13342, h⟩ := h
          obtain ⟨b13343, c13344, hkb13348, hia13345, hrd13346, hg13349, hlt13350, hR13347⟩ := hL13326.atR 0 rfl hr13314 (k := .i64) hi13342
          obtain rfl : c13344 = [Value.int .i16 (gt xs13310 x13309)] := hR13347
          (try simp only [go_sem, ↓reduceIte, Nat.reduceEqDiff, reduceCtorEq, Nat.reduceAdd, Nat.reduceLeDiff, Nat.reduceSub, Nat.reduceMul, Int.reduceEq, Nat.reduceBEq, t13328, t13329, t13333, t13334, t13335, t13336, t13337, t13338, t13339, hn9006, hc9007, hn12011, hc12012, hia12016, hc13009, hn13340, hc13341, hia13345, hrd13346])
          obtain ⟨k13352, hk13369, hk13352, h13370⟩ := h
          refine aw_cut 9 (fun T' H' => ∃ x13353, k13352 x13353 ∧ T' 64 = Value.bool x13353 ∧ H' = H13322) hl13324 rfl ?_ (fun T13371 H13372 _ ho13373 hj13374 => ?_)
          · cases hc13351 : (decide ((gt xs13310 x13309) > 0)) with
            | true =>
              simp only [opsK]
              have h := hk13352 hc13351
              obtain ⟨hi13354, h⟩ := h
              obtain ⟨b13355, o13360, c13356, hia13357, hrd13358, hR13359⟩ := SlR.atB rorders_ hL13326.sub (k := .i64) hi13354
              obtain rfl : c13356 = [Value.int .i8 ((gt orders_ x13309).fBuyer), Value.int .i8 ((gt orders_ x13309).fItem), Value.int .i16 ((gt orders_ x13309).fNumber), Value.int .i16 ((gt orders_ x13309).fPrice), Value.int .i16 ((gt orders_ x13309).fDay)] := hR13359
              obtain ⟨b13361, o13366, c13362, hia13363, hrd13364, hR13365⟩ := SlR.atB rreturns_ hL13326.sub (k := .i64) hi12013
              obtain rfl : c13362 = [Value.int .i8 ((gt returns_ x11983).fBuyer), Value.int .i8 ((gt returns_ x11983).fItem), Value.int .i16 ((gt returns_ x11983).fNumber), Value.int .i16 ((gt returns_ x11983).fDay)] := hR13365
              (try simp only [go_sem, ↓reduceIte, Nat.reduceEqDiff, reduceCtorEq, Nat.reduceAdd, Nat.reduceLeDiff, Nat.reduceSub, Nat.reduceMul, Int.reduceEq, Nat.reduceBEq, t13328, t13329, t13333, t13334, t13335, t13336, t13337, t13338, t13339, hn9006, hc9007, hn12011, hc12012, hc13009, hn13340, hc13341, hia13345, hc13351, hia13357, hia13363, hrd13346, hrd13358, hrd13364])
              refine aw_call (by (try simp only [go_sem, ↓reduceIte, Nat.reduceEqDiff, reduceCtorEq, Nat.reduceAdd, Nat.reduceLeDiff, Nat.reduceSub, Nat.reduceMul, Int.reduceEq, Nat.reduceBEq, t13328, t13329, t13333, t13334, t13335, t13336, t13337, t13338, t13339, hn9006, hc9007, hn12011, hc12012, hc13009, hn13340, hc13341, hia13345, hc13351, hia13357, hia13363, hrd13346, hrd13358, hrd13364]) <;> rfl) (by (try simp only [go_sem, ↓reduceIte, Nat.reduceEqDiff, reduceCtorEq, Nat.reduceAdd, Nat.reduceLeDiff, Nat.reduceSub, Nat.reduceMul, Int.reduceEq, Nat.reduceBEq, t13328, t13329, t13333, t13334, t13335, t13336, t13337, t13338, t13339, hn9006, hc9007, hn12011, hc12012, hc13009, hn13340, hc13341, hia13345, hc13351, hia13357, hia13363, hrd13346, hrd13358, hrd13364]) <;> rfl) (k_spec_l06Can h hrd13358 rfl hrd13364 rfl fun r13367 h => ?_)
              (try simp only [go_sem, ↓reduceIte, Nat.reduceEqDiff, reduceCtorEq, Nat.reduceAdd, Nat.reduceLeDiff, Nat.reduceSub, Nat.reduceMul, Int.reduceEq, Nat.reduceBEq, t13328, t13329, t13333, t13334, t13335, t13336, t13337, t13338, t13339, hn9006, hc9007, hn12011, hc12012, hc13009, hn13340, hc13341, hia13345, hc13351, hia13357, hia13363, hrd13346, hrd13358, hrd13364])
              exact ⟨r13367, h, by (try simp only [go_sem, ↓reduceIte, Nat.reduceEqDiff, reduceCtorEq, Nat.reduceAdd, Nat.reduceLeDiff, Nat.reduceSub, Nat.reduceMul, Int.reduceEq, Nat.reduceBEq, t13328, t13329, t13333, t13334, t13335, t13336, t13337, t13338, t13339, hn9006, hc9007, hn12011, hc12012, hc13009, hn13340, hc13341, hia13345, hc13351, hia13357, hia13363, hrd13346, hrd13358, hrd13364]), rfl⟩
            | false =>
              simp only [opsK]
              (try simp only [go_sem, ↓reduceIte, Nat.reduceEqDiff, reduceCtorEq, Nat.reduceAdd, Nat.reduceLeDiff, Nat.reduceSub, Nat.reduceMul, Int.reduceEq, Nat.reduceBEq, t13328, t13329, t13333, t13334, t13335, t13336, t13337, t13338, t13339, hn9006, hc9007, hn12011, hc12012, hia12016, hc13009, hn13340, hc13341, hia13345, hrd13346, hc13351])
              exact ⟨false, h13370 hc13351, by (try simp only [go_sem, ↓reduceIte, Nat.reduceEqDiff, reduceCtorEq, Nat.reduceAdd, Nat.reduceLeDiff, Nat.reduceSub, Nat.reduceMul, Int.reduceEq, Nat.reduceBEq]), rfl⟩
          obtain ⟨x13353, h, t13375, hH13376⟩ := hj13374
          rw [hH13376]
          have h := hk13369 x13353 h
          have t13377 : T13371 0 = vorders_ := by rw [ho13373.get rfl]; (try simp only [go_sem, ↓reduceIte, Nat.reduceEqDiff, reduceCtorEq, Nat.reduceAdd, Nat.reduceLeDiff, Nat.reduceSub, Nat.reduceMul, Int.reduceEq, Nat.reduceBEq, t13328, t13329, t13333, t13334, t13335, t13336, t13337, t13338, t13339, hn9006, hc9007, hn12011, hc12012, hia12016, hc13009, hn13340, hc13341, hia13345, hrd13346])
          have t13378 : T13371 1 = vreturns_ := by rw [ho13373.get rfl]; (try simp only [go_sem, ↓reduceIte, Nat.reduceEqDiff, reduceCtorEq, Nat.reduceAdd, Nat.reduceLeDiff, Nat.reduceSub, Nat.reduceMul, Int.reduceEq, Nat.reduceBEq, t13328, t13329, t13333, t13334, t13335, t13336, t13337, t13338, t13339, hn9006, hc9007, hn12011, hc12012, hia12016, hc13009, hn13340, hc13341, hia13345, hrd13346])
          have t13379 : T13371 2 = Value.int .i64 days_ := by rw [ho13373.get rfl]; (try simp only [go_sem, ↓reduceIte, Nat.reduceEqDiff, reduceCtorEq, Nat.reduceAdd, Nat.reduceLeDiff, Nat.reduceSub, Nat.reduceMul, Int.reduceEq, Nat.reduceBEq, t13328, t13329, t13333, t13334, t13335, t13336, t13337, t13338, t13339, hn9006, hc9007, hn12011, hc12012, hia12016, hc13009, hn13340, hc13341, hia13345, hrd13346])
          have t13380 : T13371 7 = v12988 := by rw [ho13373.get rfl]; (try simp only [go_sem, ↓reduceIte, Nat.reduceEqDiff, reduceCtorEq, Nat.reduceAdd, Nat.reduceLeDiff, Nat.reduceSub, Nat.reduceMul, Int.reduceEq, Nat.reduceBEq, t13328, t13329, t13333, t13334, t13335, t13336, t13337, t13338, t13339, hn9006, hc9007, hn12011, hc12012, hia12016, hc13009, hn13340, hc13341, hia13345, hrd13346])
          have t13381 : T13371 8 = v8981 := by rw [ho13373.get rfl]; (try simp only [go_sem, ↓reduceIte, Nat.reduceEqDiff, reduceCtorEq, Nat.reduceAdd, Nat.reduceLeDiff, Nat.reduceSub, Nat.reduceMul, Int.reduceEq, Nat.reduceBEq, t13328, t13329, t13333, t13334, t13335, t13336, t13337, t13338, t13339, hn9006, hc9007, hn12011, hc12012, hia12016, hc13009, hn13340, hc13341, hia13345, hrd13346])
          have t13382 : T13371 10 = Value.int .i64 x11983 := by rw [ho13373.get rfl]; (try simp only [go_sem, ↓reduceIte, Nat.reduceEqDiff, reduceCtorEq, Nat.reduceAdd, Nat.reduceLeDiff, Nat.reduceSub, Nat.reduceMul, Int.reduceEq, Nat.reduceBEq, t13328, t13329, t13333, t13334, t13335, t13336, t13337, t13338, t13339, hn9006, hc9007, hn12011, hc12012, hia12016, hc13009, hn13340, hc13341, hia13345, hrd13346])
          have t13383 : T13371 11 = Value.int .i16 x12980 := by rw [ho13373.get rfl]; (try simp only [go_sem, ↓reduceIte, Nat.reduceEqDiff, reduceCtorEq, Nat.reduceAdd, Nat.reduceLeDiff, Nat.reduceSub, Nat.reduceMul, Int.reduceEq, Nat.reduceBEq, t13328, t13329, t13333, t13334, t13335, t13336, t13337, t13338, t13339, hn9006, hc9007, hn12011, hc12012, hia12016, hc13009, hn13340, hc13341, hia13345, hrd13346])
          have t13384 : T13371 12 = Value.int .i64 x13308 := by rw [ho13373.get rfl]; (try simp only [go_sem, ↓reduceIte, Nat.reduceEqDiff, reduceCtorEq, Nat.reduceAdd, Nat.reduceLeDiff, Nat.reduceSub, Nat.reduceMul, Int.reduceEq, Nat.reduceBEq, t13328, t13329, t13333, t13334, t13335, t13336, t13337, t13338, t13339, hn9006, hc9007, hn12011, hc12012, hia12016, hc13009, hn13340, hc13341, hia13345, hrd13346])
          have t13385 : T13371 13 = Value.int .i64 x13309 := by rw [ho13373.get rfl]; (try simp only [go_sem, ↓reduceIte, Nat.reduceEqDiff, reduceCtorEq, Nat.reduceAdd, Nat.reduceLeDiff, Nat.reduceSub, Nat.reduceMul, Int.reduceEq, Nat.reduceBEq, t13328, t13329, t13333, t13334, t13335, t13336, t13337, t13338, t13339, hn9006, hc9007, hn12011, hc12012, hia12016, hc13009, hn13340, hc13341, hia13345, hrd13346])
          (try simp only [go_sem, ↓reduceIte, Nat.reduceEqDiff, reduceCtorEq, Nat.reduceAdd, Nat.reduceLeDiff, Nat.reduceSub, Nat.reduceMul, Int.reduceEq, Nat.reduceBEq, t13377, t13378, t13379, t13380, t13381, t13382, t13383, t13384, t13385, t13375, hn9006, hc9007, hn12011, hc12012, hia12016, hc13009, hn13340, hc13341, hia13345, hrd13346])
          obtain ⟨hg13412, h⟩ := h
          refine aw_cut 16 (fun T' H' => T' 81 = Value.bool (x13353 && ((decide (x13308 < 0)) || (decide ((gt orders_ x13309).fDay < (gt orders_ x13308).fDay)))) ∧ H' = H13322) hl13324 rfl ?_ (fun T13413 H13414 _ ho13415 hj13416 => ?_)
          · cases hc13386 : x13353 with
            | true =>
              simp only [opsK]
              have h := hg13412 hc13386
              (try simp only [go_sem, ↓reduceIte, Nat.reduceEqDiff, reduceCtorEq, Nat.reduceAdd, Nat.reduceLeDiff, Nat.reduceSub, Nat.reduceMul, Int.reduceEq, Nat.reduceBEq, t13377, t13378, t13379, t13380, t13381, t13382, t13383, t13384, t13385, t13375, hn9006, hc9007, hn12011, hc12012, hia12016, hc13009, hn13340, hc13341, hia13345, hc13386, hrd13346])
              obtain ⟨hg13404, h⟩ := h
              refine aw_cut 12 (fun T' H' => T' 80 = Value.bool ((decide (x13308 < 0)) || (decide ((gt orders_ x13309).fDay < (gt orders_ x13308).fDay))) ∧ H' = H13322) hl13324 rfl ?_ (fun T13405 H13406 _ ho13407 hj13408 => ?_)
              · cases hc13387 : (decide (x13308 < 0)) with
                | true =>
                  simp only [opsK]
                  (try simp only [go_sem, ↓reduceIte, Nat.reduceEqDiff, reduceCtorEq, Nat.reduceAdd, Nat.reduceLeDiff, Nat.reduceSub, Nat.reduceMul, Int.reduceEq, Nat.reduceBEq, t13377, t13378, t13379, t13380, t13381, t13382, t13383, t13384, t13385, t13375, hn9006, hc9007, hn12011, hc12012, hia12016, hc13009, hn13340, hc13341, hia13345, hc13386, hrd13346, hc13387])
                  exact ⟨by (try simp only [go_sem, ↓reduceIte, Nat.reduceEqDiff, reduceCtorEq, Nat.reduceAdd, Nat.reduceLeDiff, Nat.reduceSub, Nat.reduceMul, Int.reduceEq, Nat.reduceBEq, Bool.false_and, Bool.true_or, Bool.false_or]), rfl⟩
                | false =>
                  simp only [opsK]
                  have h := hg13404 hc13387
                  obtain ⟨hi13388, h⟩ := h
                  obtain ⟨b13389, o13394, c13390, hia13391, hrd13392, hR13393⟩ := SlR.atB rorders_ hL13326.sub (k := .i64) hi13388
                  obtain rfl : c13390 = [Value.int .i8 ((gt orders_ x13309).fBuyer), Value.int .i8 ((gt orders_ x13309).fItem), Value.int .i16 ((gt orders_ x13309).fNumber), Value.int .i16 ((gt orders_ x13309).fPrice), Value.int .i16 ((gt orders_ x13309).fDay)] := hR13393
                  have hrp13395 : rdObj (H13322 b13389) (o13394 + 4) 1 = some [Value.int .i16 ((gt orders_ x13309).fDay)] := rd_part (k := 4) (m := 1) hrd13392 (by omega)
                  obtain ⟨hi13396, h⟩ := h
                  obtain ⟨b13397, o13402, c13398, hia13399, hrd13400, hR13401⟩ := SlR.atB rorders_ hL13326.sub (k := .i64) hi13396
                  obtain rfl : c13398 = [Value.int .i8 ((gt orders_ x13308).fBuyer), Value.int .i8 ((gt orders_ x13308).fItem), Value.int .i16 ((gt orders_ x13308).fNumber), Value.int .i16 ((gt orders_ x13308).fPrice), Value.int .i16 ((gt orders_ x13308).fDay)] := hR13401
                  have hrp13403 : rdObj (H13322 b13397) (o13402 + 4) 1 = some [Value.int .i16 ((gt orders_ x13308).fDay)] := rd_part (k := 4) (m := 1) hrd13400 (by omega)
                  (try simp only [go_sem, ↓reduceIte, Nat.reduceEqDiff, reduceCtorEq, Nat.reduceAdd, Nat.reduceLeDiff, Nat.reduceSub, Nat.reduceMul, Int.reduceEq, Nat.reduceBEq, t13377, t13378, t13379, t13380, t13381, t13382, t13383, t13384, t13385, t13375, hn9006, hc9007, hn12011, hc12012, hia12016, hc13009, hn13340, hc13341, hia13345, hc13386, hc13387, hia13391, hia13399, hrd13346, hrd13392, hrp13395, hrd13400, hrp13403])
                  exact ⟨by (try simp only [go_sem, ↓reduceIte, Nat.reduceEqDiff, reduceCtorEq, Nat.reduceAdd, Nat.reduceLeDiff, Nat.reduceSub, Nat.reduceMul, Int.reduceEq, Nat.reduceBEq, t13377, t13378, t13379, t13380, t13381, t13382, t13383, t13384, t13385, t13375, hn9006, hc9007, hn12011, hc12012, hia12016, hc13009, hn13340, hc13341, hia13345, hc13386, hc13387, hia13391, hia13399, hrd13346, hrd13392, hrp13395, hrd13400, hrp13403, Bool.false_and, Bool.true_or, Bool.false_or]), rfl⟩
              obtain ⟨t13409, hH13410⟩ := hj13408
              rw [hH13410]
              have t13411 : T13405 65 = Value.bool x13353 := by rw [ho13407.get rfl]; (try simp only [go_sem, ↓reduceIte, Nat.reduceEqDiff, reduceCtorEq, Nat.reduceAdd, Nat.reduceLeDiff, Nat.reduceSub, Nat.reduceMul, Int.reduceEq, Nat.reduceBEq, t13377, t13378, t13379, t13380, t13381, t13382, t13383, t13384, t13385, t13375, hn9006, hc9007, hn12011, hc12012, hia12016, hc13009, hn13340, hc13341, hia13345, hc13386, hrd13346])
              (try simp only [go_sem, ↓reduceIte, Nat.reduceEqDiff, reduceCtorEq, Nat.reduceAdd, Nat.reduceLeDiff, Nat.reduceSub, Nat.reduceMul, Int.reduceEq, Nat.reduceBEq, t13411, t13409, hn9006, hc9007, hn12011, hc12012, hia12016, hc13009, hn13340, hc13341, hia13345, hc13386, hrd13346])
              exact ⟨by (try simp only [go_sem, ↓reduceIte, Nat.reduceEqDiff, reduceCtorEq, Nat.reduceAdd, Nat.reduceLeDiff, Nat.reduceSub, Nat.reduceMul, Int.reduceEq, Nat.reduceBEq, t13411, t13409, hn9006, hc9007, hn12011, hc12012, hia12016, hc13009, hn13340, hc13341, hia13345, hc13386, hrd13346, Bool.false_and, Bool.true_or, Bool.false_or]), rfl⟩
            | false =>
              simp only [opsK]
              (try simp only [go_sem, ↓reduceIte, Nat.reduceEqDiff, reduceCtorEq, Nat.reduceAdd, Nat.reduceLeDiff, Nat.reduceSub, Nat.reduceMul, Int.reduceEq, Nat.reduceBEq, t13377, t13378, t13379, t13380, t13381, t13382, t13383, t13384, t13385, t13375, hn9006, hc9007, hn12011, hc12012, hia12016, hc13009, hn13340, hc13341, hia13345, hrd13346, hc13386])
              exact ⟨by (try simp only [go_sem, ↓reduceIte, Nat.reduceEqDiff, reduceCtorEq, Nat.reduceAdd, Nat.reduceLeDiff, Nat.reduceSub, Nat.reduceMul, Int.reduceEq, Nat.reduceBEq, Bool.false_and, Bool.true_or, Bool.false_or]), rfl⟩
          obtain ⟨t13417, hH13418⟩ := hj13416
          rw [hH13418]
          have t13419 : T13413 0 = vorders_ := by rw [ho13415.get rfl]; (try simp only [go_sem, ↓reduceIte, Nat.reduceEqDiff, reduceCtorEq, Nat.reduceAdd, Nat.reduceLeDiff, Nat.reduceSub, Nat.reduceMul, Int.reduceEq, Nat.reduceBEq, t13377, t13378, t13379, t13380, t13381, t13382, t13383, t13384, t13385, t13375, hn9006, hc9007, hn12011, hc12012, hia12016, hc13009, hn13340, hc13341, hia13345, hrd13346])
          have t13420 : T13413 1 = vreturns_ := by rw [ho13415.get rfl]; (try simp only [go_sem, ↓reduceIte, Nat.reduceEqDiff, reduceCtorEq, Nat.reduceAdd, Nat.reduceLeDiff, Nat.reduceSub, Nat.reduceMul, Int.reduceEq, Nat.reduceBEq, t13377, t13378, t13379, t13380, t13381, t13382, t13383, t13384, t13385, t13375, hn9006, hc9007, hn12011, hc12012, hia12016, hc13009, hn13340, hc13341, hia13345, hrd13346])
          have t13421 : T13413 2 = Value.int .i64 days_ := by rw [ho13415.get rfl]; (try simp only [go_sem, ↓reduceIte, Nat.reduceEqDiff, reduceCtorEq, Nat.reduceAdd, Nat.reduceLeDiff, Nat.reduceSub, Nat.reduceMul, Int.reduceEq, Nat.reduceBEq, t13377, t13378, t13379, t13380, t13381, t13382, t13383, t13384, t13385, t13375, hn9006, hc9007, hn12011, hc12012, hia12016, hc13009, hn13340, hc13341, hia13345, hrd13346])
          have t13422 : T13413 7 = v12988 := by rw [ho13415.get rfl]; (try simp only [go_sem, ↓reduceIte, Nat.reduceEqDiff, reduceCtorEq, Nat.reduceAdd, Nat.reduceLeDiff, Nat.reduceSub, Nat.reduceMul, Int.reduceEq, Nat.reduceBEq, t13377, t13378, t13379, t13380, t13381, t13382, t13383, t13384, t13385, t13375, hn9006, hc9007, hn12011, hc12012, hia12016, hc13009, hn13340, hc13341, hia13345, hrd13346])
          have t13423 : T13413 8 = v8981 := by rw [ho13415.get rfl]; (try simp only [go_sem, ↓reduceIte, Nat.reduceEqDiff, reduceCtorEq, Nat.reduceAdd, Nat.reduceLeDiff, Nat.reduceSub, Nat.reduceMul, Int.reduceEq, Nat.reduceBEq, t13377, t13378, t13379, t13380, t13381, t13382, t13383, t13384, t13385, t13375, hn9006, hc9007, hn12011, hc12012, hia12016, hc13009, hn13340, hc13341, hia13345, hrd13346])
          have t13424 : T13413 10 = Value.int .i64 x11983 := by rw [ho13415.get rfl]; (try simp only [go_sem, ↓reduceIte, Nat.reduceEqDiff, reduceCtorEq, Nat.reduceAdd, Nat.reduceLeDiff, Nat.reduceSub, Nat.reduceMul, Int.reduceEq, Nat.reduceBEq, t13377, t13378, t13379, t13380, t13381, t13382, t13383, t13384, t13385, t13375, hn9006, hc9007, hn12011, hc12012, hia12016, hc13009, hn13340, hc13341, hia13345, hrd13346])
          have t13425 : T13413 11 = Value.int .i16 x12980 := by rw [ho13415.get rfl]; (try simp only [go_sem, ↓reduceIte, Nat.reduceEqDiff, reduceCtorEq, Nat.reduceAdd, Nat.reduceLeDiff, Nat.reduceSub, Nat.reduceMul, Int.reduceEq, Nat.reduceBEq, t13377, t13378, t13379, t13380, t13381, t13382, t13383, t13384, t13385, t13375, hn9006, hc9007, hn12011, hc12012, hia12016, hc13009, hn13340, hc13341, hia13345, hrd13346])
          have t13426 : T13413 12 = Value.int .i64 x13308 := by rw [ho13415.get rfl]; (try simp only [go_sem, ↓reduceIte, Nat.reduceEqDiff, reduceCtorEq, Nat.reduceAdd, Nat.reduceLeDiff, Nat.reduceSub, Nat.reduceMul, Int.reduceEq, Nat.reduceBEq, t13377, t13378, t13379, t13380, t13381, t13382, t13383, t13384, t13385, t13375, hn9006, hc9007, hn12011, hc12012, hia12016, hc13009, hn13340, hc13341, hia13345, hrd13346])
          have t13427 : T13413 13 = Value.int .i64 x13309 := by rw [ho13415.get rfl]; (try simp only [go_sem, ↓reduceIte, Nat.reduceEqDiff, reduceCtorEq, Nat.reduceAdd, Nat.reduceLeDiff, Nat.reduceSub, Nat.reduceMul, Int.reduceEq, Nat.reduceBEq, t13377, t13378, t13379, t13380, t13381, t13382, t13383, t13384, t13385, t13375, hn9006, hc9007, hn12011, hc12012, hia12016, hc13009, hn13340, hc13341, hia13345, hrd13346])
          (try simp only [go_sem, ↓reduceIte, Nat.reduceEqDiff, reduceCtorEq, Nat.reduceAdd, Nat.reduceLeDiff, Nat.reduceSub, Nat.reduceMul, Int.reduceEq, Nat.reduceBEq, t13419, t13420, t13421, t13422, t13423, t13424, t13425, t13426, t13427, t13417, hn9006, hc9007, hn12011, hc12012, hia12016, hc13009, hn13340, hc13341, hia13345, hrd13346])
          cases hc13428 : (x13353 && ((decide (x13308 < 0)) || (decide ((gt orders_ x13309).fDay < (gt orders_ x13308).fDay)))) with
          | true =>
            have h := h.1 hc13428
            obtain ⟨m13331, hm13332, h⟩ := h
            (try simp only [go_sem, ↓reduceIte, Nat.reduceEqDiff, reduceCtorEq, Nat.reduceAdd, Nat.reduceLeDiff, Nat.reduceSub, Nat.reduceMul, Int.reduceEq, Nat.reduceBEq, t13419, t13420, t13421, t13422, t13423, t13424, t13425, t13426, t13427, t13417, hn9006, hc9007, hn12011, hc12012, hia12016, hc13009, hn13340, hc13341, hia13345, hc13428, hrd13346])
            exact ⟨m13331, H13322, hm13332, Hp.sub.refl _, x13309, (IntKind.i64.wrap (x13309 + 1)), xs13310, xs13315, rows13313, rows13318, h, (by (try simp only [go_sem, ↓reduceIte, Nat.reduceEqDiff, reduceCtorEq, Nat.reduceAdd, Nat.reduceLeDiff, Nat.reduceSub, Nat.reduceMul, Int.reduceEq, Nat.reduceBEq, t13419, t13420, t13421, t13422, t13423, t13424, t13425, t13426, t13427, t13417, hn9006, hc9007, hn12011, hc12012, hia12016, hc13009, hn13340, hc13341, hia13345, hc13428, hrd13346]) <;> rfl), (by (try simp only [go_sem, ↓reduceIte, Nat.reduceEqDiff, reduceCtorEq, Nat.reduceAdd, Nat.reduceLeDiff, Nat.reduceSub, Nat.reduceMul, Int.reduceEq, Nat.reduceBEq, t13419, t13420, t13421, t13422, t13423, t13424, t13425, t13426, t13427, t13417, hn9006, hc9007, hn12011, hc12012, hia12016, hc13009, hn13340, hc13341, hia13345, hc13428, hrd13346]) <;> rfl), hL13326, hr13314, hr13319⟩
          | false =>
            have h := h.2 hc13428
            obtain ⟨m13331, hm13332, h⟩ := h
            (try simp only [go_sem, ↓reduceIte, Nat.reduceEqDiff, reduceCtorEq, Nat.reduceAdd, Nat.reduceLeDiff, Nat.reduceSub, Nat.reduceMul, Int.reduceEq, Nat.reduceBEq, t13419, t13420, t13421, t13422, t13423, t13424, t13425, t13426, t13427, t13417, hn9006, hc9007, hn12011, hc12012, hia12016, hc13009, hn13340, hc13341, hia13345, hc13428, hrd13346])
            exact ⟨m13331, H13322, hm13332, Hp.sub.refl _, x13308, (IntKind.i64.wrap (x13309 + 1)), xs13310, xs13315, rows13313, rows13318, h, (by (try simp only [go_sem, ↓reduceIte, Nat.reduceEqDiff, reduceCtorEq, Nat.reduceAdd, Nat.reduceLeDiff, Nat.reduceSub, Nat.reduceMul, Int.reduceEq, Nat.reduceBEq, t13419, t13420, t13421, t13422, t13423, t13424, t13425, t13426, t13427, t13417, hn9006, hc9007, hn12011, hc12012, hia12016, hc13009, hn13340, hc13341, hia13345, hc13428, hrd13346]) <;> rfl), (by (try simp only [go_sem, ↓reduceIte, Nat.reduceEqDiff, reduceCtorEq, Nat.reduceAdd, Nat.reduceLeDiff, Nat.reduceSub, Nat.reduceMul, Int.reduceEq, Nat.reduceBEq, t13419, t13420, t13421, t13422, t13423, t13424, t13425, t13426, t13427, t13417, hn9006, hc9007, hn12011, hc12012, hia12016, hc13009, hn13340, hc13341, hia13345, hc13428, hrd13346]) <;> rfl), hL13326, hr13314, hr13319⟩
        | false =>
          have h := h.2 hc13341
          (try simp only [go_sem, ↓reduceIte, Nat.reduceEqDiff, reduceCtorEq, Nat.reduceAdd, Nat.reduceLeDiff, Nat.reduceSub, Nat.reduceMul, Int.reduceEq, Nat.reduceBEq, t13328, t13329, t13333, t13334, t13335, t13336, t13337, t13338, t13339, hn9006, hc9007, hn12011, hc12012, hia12016, hc13009, hn13340, hc13341])
          cases hc13429 : (decide (x13308 < 0)) with
          | true =>
            have h := h.1 hc13429
            obtain ⟨m12005, hm12006, h⟩ := h
            (try simp only [go_sem, ↓reduceIte, Nat.reduceEqDiff, reduceCtorEq, Nat.reduceAdd, Nat.reduceLeDiff, Nat.reduceSub, Nat.reduceMul, Int.reduceEq, Nat.reduceBEq, t13328, t13329, t13333, t13334, t13335, t13336, t13337, t13338, t13339, hn9006, hc9007, hn12011, hc12012, hia12016, hc13009, hn13340, hc13341, hc13429])
            exact ⟨m12005, H13322, hm12006, Hp.sub.refl _, (IntKind.i64.wrap (x11983 + 1)), xs13310, xs13315, rows13313, kb12987, v12988, rows13318, h, (by (try simp only [go_sem, ↓reduceIte, Nat.reduceEqDiff, reduceCtorEq, Nat.reduceAdd, Nat.reduceLeDiff, Nat.reduceSub, Nat.reduceMul, Int.reduceEq, Nat.reduceBEq, t13328, t13329, t13333, t13334, t13335, t13336, t13337, t13338, t13339, hn9006, hc9007, hn12011, hc12012, hia12016, hc13009, hn13340, hc13341, hc13429]) <;> rfl), (by (try simp only [go_sem, ↓reduceIte, Nat.reduceEqDiff, reduceCtorEq, Nat.reduceAdd, Nat.reduceLeDiff, Nat.reduceSub, Nat.reduceMul, Int.reduceEq, Nat.reduceBEq, t13328, t13329, t13333, t13334, t13335, t13336, t13337, t13338, t13339, hn9006, hc9007, hn12011, hc12012, hia12016, hc13009, hn13340, hc13341, hc13429]) <;> rfl), hL13326, hr13314, hr13319⟩
          | false =>
            have h := h.2 hc13429
            obtain ⟨hi13430, h⟩ := h
            obtain ⟨b13431, c13432, hkb13436, hia13433, hrd13434, hg13437, hlt13438, hR13435⟩ := hL13326.atR 0 rfl hr13314 (k := .i64) hi13430
            obtain rfl : c13432 = [Value.int .i16 (gt xs13310 x13308)] := hR13435
            (try simp only [go_sem, ↓reduceIte, Nat.reduceEqDiff, reduceCtorEq, Nat.reduceAdd, Nat.reduceLeDiff, Nat.reduceSub, Nat.reduceMul, Int.reduceEq, Nat.reduceBEq, t13328, t13329, t13333, t13334, t13335, t13336, t13337, t13338, t13339, hn9006, hc9007, hn12011, hc12012, hia12016, hc13009, hn13340, hc13341, hc13429, hia13433, hrd13434])
            refine aw_call (by (try simp only [go_sem, ↓reduceIte, Nat.reduceEqDiff, reduceCtorEq, Nat.reduceAdd, Nat.reduceLeDiff, Nat.reduceSub, Nat.reduceMul, Int.reduceEq, Nat.reduceBEq, t13328, t13329, t13333, t13334, t13335, t13336, t13337, t13338, t13339, hn9006, hc9007, hn12011, hc12012, hia12016, hc13009, hn13340, hc13341, hc13429, hia13433, hrd13434]) <;> rfl) (by (try simp only [go_sem, ↓reduceIte, Nat.reduceEqDiff, reduceCtorEq, Nat.reduceAdd, Nat.reduceLeDiff, Nat.reduceSub, Nat.reduceMul, Int.reduceEq, Nat.reduceBEq, t13328, t13329, t13333, t13334, t13335, t13336, t13337, t13338, t13339, hn9006, hc9007, hn12011, hc12012, hia12016, hc13009, hn13340, hc13341, hc13429, hia13433, hrd13434]) <;> rfl) (k_spec_l00Min h fun r13439 h => ?_)
            (try simp only [go_sem, ↓reduceIte, Nat.reduceEqDiff, reduceCtorEq, Nat.reduceAdd, Nat.reduceLeDiff, Nat.reduceSub, Nat.reduceMul, Int.reduceEq, Nat.reduceBEq, t13328, t13329, t13333, t13334, t13335, t13336, t13337, t13338, t13339, hn9006, hc9007, hn12011, hc12012, hia12016, hc13009, hn13340, hc13341, hc13429, hia13433, hrd13434])
            refine awL_wrR (sub := 0) (r' := [Value.int .i16 (IntKind.i16.wrap ((gt xs13310 x13308) - (IntKind.i16.wrap r13439)))]) 0 hl13324 hL13326 rfl hkb13436 hlt13438 hg13437 (by (try simp only [go_sem, ↓reduceIte, Nat.reduceEqDiff, reduceCtorEq, Nat.reduceAdd, Nat.reduceLeDiff, Nat.reduceSub, Nat.reduceMul, Int.reduceEq, Nat.reduceBEq, t13328, t13329, t13333, t13334, t13335, t13336, t13337, t13338, t13339, hn9006, hc9007, hn12011, hc12012, hia12016, hc13009, hn13340, hc13341, hc13429, hia13433, hrd13434]) <;> rfl) rfl (by (try simp only [go_sem, ↓reduceIte, Nat.reduceEqDiff, reduceCtorEq, Nat.reduceAdd, Nat.reduceLeDiff, Nat.reduceSub, Nat.reduceMul, Int.reduceEq, Nat.reduceBEq, t13328, t13329, t13333, t13334, t13335, t13336, t13337, t13338, t13339, hn9006, hc9007, hn12011, hc12012, hia12016, hc13009, hn13340, hc13341, hc13429, hia13433, hrd13434]) <;> rfl) (by (try simp only [go_sem, ↓reduceIte, Nat.reduceEqDiff, reduceCtorEq, Nat.reduceAdd, Nat.reduceLeDiff, Nat.reduceSub, Nat.reduceMul, Int.reduceEq, Nat.reduceBEq, t13328, t13329, t13333, t13334, t13335, t13336, t13337, t13338, t13339, hn9006, hc9007, hn12011, hc12012, hia12016, hc13009, hn13340, hc13341, hc13429, hia13433, hrd13434]) <;> rfl) fun H13441 hl13442 hL13443 => ?_
            have hr13444 := hr13314.set (x13308).toNat (show (RI .i16) H (IntKind.i16.wrap ((gt xs13310 x13308) - (IntKind.i16.wrap r13439))) [Value.int .i16 (IntKind.i16.wrap ((gt xs13310 x13308) - (IntKind.i16.wrap r13439)))] from rfl)
            obtain ⟨xs13445, hxs13446⟩ : ∃ ys, ys = (xs13310.set (x13308).toNat (IntKind.i16.wrap ((gt xs13310 x13308) - (IntKind.i16.wrap r13439)))) := ⟨_, rfl⟩
            rw [← hxs13446] at hr13444
            have h := h xs13445 hxs13446
            generalize (rows13313.set (x13308).toNat [Value.int .i16 (IntKind.i16.wrap ((gt xs13310 x13308) - (IntKind.i16.wrap r13439)))]) = rows13447 at hL13443 hr13444
            (try simp only [go_sem, ↓reduceIte, Nat.reduceEqDiff, reduceCtorEq, Nat.reduceAdd, Nat.reduceLeDiff, Nat.reduceSub, Nat.reduceMul, Int.reduceEq, Nat.reduceBEq, t13328, t13329, t13333, t13334, t13335, t13336, t13337, t13338, t13339, hn9006, hc9007, hn12011, hc12012, hia12016, hc13009, hn13340, hc13341, hc13429, hia13433])
            refine awL_bsl1 [Value.int .i8 (IntKind.i8.wrap x11983), Value.int .i8 (IntKind.i8.wrap x13308), Value.int .i16 (IntKind.i16.wrap r13439)] hl13442 hL13443 (by (try simp only [go_sem, ↓reduceIte, Nat.reduceEqDiff, reduceCtorEq, Nat.reduceAdd, Nat.reduceLeDiff, Nat.reduceSub, Nat.reduceMul, Int.reduceEq, Nat.reduceBEq, t13328, t13329, t13333, t13334, t13335, t13336, t13337, t13338, t13339, hn9006, hc9007, hn12011, hc12012, hia12016, hc13009, hn13340, hc13341, hc13429, hia13433]) <;> rfl) rfl rfl fun b13451 v13452 H13448 hl13449 hL13450 => ?_
            have hr13453 : Rows R_Match H [(⟨(IntKind.i8.wrap x11983), (IntKind.i8.wrap x13308), (IntKind.i16.wrap r13439)⟩ : S_Match)] [[Value.int .i8 (IntKind.i8.wrap x11983), Value.int .i8 (IntKind.i8.wrap x13308), Value.int .i16 (IntKind.i16.wrap r13439)]] := (Rows.nil R_Match H).snoc (show R_Match H (⟨(IntKind.i8.wrap x11983), (IntKind.i8.wrap x13308), (IntKind.i16.wrap r13439)⟩ : S_Match) [Value.int .i8 (IntKind.i8.wrap x11983), Value.int .i8 (IntKind.i8.wrap x13308), Value.int .i16 (IntKind.i16.wrap r13439)] from rfl)
            obtain ⟨hc13455, h⟩ := h
            (try simp only [go_sem, ↓reduceIte, Nat.reduceEqDiff, reduceCtorEq, Nat.reduceAdd, Nat.reduceLeDiff, Nat.reduceSub, Nat.reduceMul, Int.reduceEq, Nat.reduceBEq, t13328, t13329, t13333, t13334, t13335, t13336, t13337, t13338, t13339, hn9006, hc9007, hn12011, hc12012, hia12016, hc13009, hn13340, hc13341, hc13429, hia13433])
            refine awL_app1 2 0 hl13449 hL13450 rfl rfl (by (try simp only [go_sem, ↓reduceIte, Nat.reduceEqDiff, reduceCtorEq, Nat.reduceAdd, Nat.reduceLeDiff, Nat.reduceSub, Nat.reduceMul, Int.reduceEq, Nat.reduceBEq, t13328, t13329, t13333, t13334, t13335, t13336, t13337, t13338, t13339, hn9006, hc9007, hn12011, hc12012, hia12016, hc13009, hn13340, hc13341, hc13429, hia13433]) <;> rfl) (by (try simp only [go_sem, ↓reduceIte, Nat.reduceEqDiff, reduceCtorEq, Nat.reduceAdd, Nat.reduceLeDiff, Nat.reduceSub, Nat.reduceMul, Int.reduceEq, Nat.reduceBEq, t13328, t13329, t13333, t13334, t13335, t13336, t13337, t13338, t13339, hn9006, hc9007, hn12011, hc12012, hia12016, hc13009, hn13340, hc13341, hc13429, hia13433]) <;> rfl) rfl (by omega) (by rw [hr13319.1]; exact hc13455) fun kb13459 v13460 H13456 hl13457 hL13458 => ?_
            have hr13461 := hr13319.snoc (show R_Match H (⟨(IntKind.i8.wrap x11983), (IntKind.i8.wrap x13308), (IntKind.i16.wrap r13439)⟩ : S_Match) [Value.int .i8 (IntKind.i8.wrap x11983), Value.int .i8 (IntKind.i8.wrap x13308), Value.int .i16 (IntKind.i16.wrap r13439)] from rfl)
            obtain ⟨m13002, hm13003, h⟩ := h
            (try simp only [go_sem, ↓reduceIte, Nat.reduceEqDiff, reduceCtorEq, Nat.reduceAdd, Nat.reduceLeDiff, Nat.reduceSub, Nat.reduceMul, Int.reduceEq, Nat.reduceBEq, t13328, t13329, t13333, t13334, t13335, t13336, t13337, t13338, t13339, hn9006, hc9007, hn12011, hc12012, hia12016, hc13009, hn13340, hc13341, hc13429, hia13433])
            exact ⟨m13002, H13456, hm13003, Hp.sub.refl _, (IntKind.i16.wrap (x12980 - (IntKind.i16.wrap r13439))), xs13445, (xs13315 ++ [(⟨(IntKind.i8.wrap x11983), (IntKind.i8.wrap x13308), (IntKind.i16.wrap r13439)⟩ : S_Match)]), rows13447, kb13459, v13460, (rows13318 ++ [[Value.int .i8 (IntKind.i8.wrap x11983), Value.int .i8 (IntKind.i8.wrap x13308), Value.int .i16 (IntKind.i16.wrap r13439)]]), h, (by (try simp only [go_sem, ↓reduceIte, Nat.reduceEqDiff, reduceCtorEq, Nat.reduceAdd, Nat.reduceLeDiff, Nat.reduceSub, Nat.reduceMul, Int.reduceEq, Nat.reduceBEq, t13328, t13329, t13333, t13334, t13335, t13336, t13337, t13338, t13339, hn9006, hc9007, hn12011, hc12012, hia12016, hc13009, hn13340, hc13341, hc13429, hia13433]) <;> rfl), (by (try simp only [go_sem, ↓reduceIte, Nat.reduceEqDiff, reduceCtorEq, Nat.reduceAdd, Nat.reduceLeDiff, Nat.reduceSub, Nat.reduceMul, Int.reduceEq, Nat.reduceBEq, t13328, t13329, t13333, t13334, t13335, t13336, t13337, t13338, t13339, hn9006, hc9007, hn12011, hc12012, hia12016, hc13009, hn13340, hc13341, hc13429, hia13433]) <;> rfl), (hL13458.sel [1, 2] (by decide)), hr13444, hr13461⟩
      | false =>
        have h := h.2 hc13009
        obtain ⟨m12005, hm12006, h⟩ := h
        (try simp only [go_sem, ↓reduceIte, Nat.reduceEqDiff, reduceCtorEq, Nat.reduceAdd, Nat.reduceLeDiff, Nat.reduceSub, Nat.reduceMul, Int.reduceEq, Nat.reduceBEq, t12999, t13000, t13004, t13005, t13006, t13007, t13008, hn9006, hc9007, hn12011, hc12012, hia12016, hc13009])
        exact ⟨m12005, H12993, hm12006, Hp.sub.refl _, (IntKind.i64.wrap (x11983 + 1)), xs12981, xs12986, rows12984, kb12987, v12988, rows12989, h, (by (try simp only [go_sem, ↓reduceIte, Nat.reduceEqDiff, reduceCtorEq, Nat.reduceAdd, Nat.reduceLeDiff, Nat.reduceSub, Nat.reduceMul, Int.reduceEq, Nat.reduceBEq, t12999, t13000, t13004, t13005, t13006, t13007, t13008, hn9006, hc9007, hn12011, hc12012, hia12016, hc13009]) <;> rfl), (by (try simp only [go_sem, ↓reduceIte, Nat.reduceEqDiff, reduceCtorEq, Nat.reduceAdd, Nat.reduceLeDiff, Nat.reduceSub, Nat.reduceMul, Int.reduceEq, Nat.reduceBEq, t12999, t13000, t13004, t13005, t13006, t13007, t13008, hn9006, hc9007, hn12011, hc12012, hia12016, hc13009]) <;> rfl), hL12997, hr12985, hr12990⟩
    | false =>
      have h := h.2 hc12012
      (try simp only [go_sem, ↓reduceIte, Nat.reduceEqDiff, reduceCtorEq, Nat.reduceAdd, Nat.reduceLeDiff, Nat.reduceSub, Nat.reduceMul, Int.reduceEq, Nat.reduceBEq, t12002, t12003, t12007, t12008, t12009, t12010, hn9006, hc9007, hn12011, hc12012])
      exact retQ_r1 (by (try simp only [go_sem, ↓reduceIte, Nat.reduceEqDiff, reduceCtorEq, Nat.reduceAdd, Nat.reduceLeDiff, Nat.reduceSub, Nat.reduceMul, Int.reduceEq, Nat.reduceBEq, t12002, t12003, t12007, t12008, t12009, t12010, hn9006, hc9007, hn12011, hc12012]) <;> rfl) H11996 (Hp.sub.refl _) (hK _ h H11996 kb11990 v11991 rows11992 hl11998 (hL12000.sel [1] (by decide)) hr11993)
def w_spec_LeftOver (orders_ : (List S_Order)) (returns_ : (List S_Return)) (days_ : Int) (Q : (List Int) → Int → Prop) : Prop := orders_.length ≤ 1152921504606846976 → returns_.length ≤ 1152921504606846976 → (w_spec_l06Days days_ fun r1 => (w_spec_l06Asked orders_ returns_ r1 fun r3 => (((!decide (r3 = 0)) = true → Q ([] : List Int) r3) ∧ ((!decide (r3 = 0)) = false → (∃ I424 : Nat → Int → (List Int) → Prop, (∃ m, I424 m 0 ([] : List Int)) ∧ (∀ (m434 : Nat) (x418 : Int) (xs419 : List Int), I424 m434 x418 xs419 → (((decide (x418 < (returns_.length : Int))) = true → (In x418 returns_.length ∧ ((xs419.length + 1) * 8 ≤ 140737488355328 ∧ (∃ m435, m435 < m434 ∧ I424 m435 (IntKind.i64.wrap (x418 + 1)) (xs419 ++ [(IntKind.i64.wrap ((gt returns_ x418).fNumber))]))))) ∧ ((decide (x418 < (returns_.length : Int))) = false → (w_spec_l06Matches orders_ returns_ days_ fun r464 => (∃ I574 : Nat → Int → (List Int) → Prop, (∃ m, I574 m 0 xs419) ∧ (∀ (m583 : Nat) (x568 : Int) (xs569 : List Int), I574 m583 x568 xs569 → (((decide (x568 < (r464.length : Int))) = true → (In x568 r464.length ∧ (In ((gt r464 x568).fReturn) xs569.length ∧ (∀ xs614, xs614 = (xs569.set ((gt r464 x568).fReturn).toNat (IntKind.i64.wrap ((gt xs569 ((gt r464 x568).fReturn)) - (IntKind.i64.wrap ((gt r464 x568).fNumber))))) → (∃ m584, m584 < m583 ∧ I574 m584 (IntKind.i64.wrap (x568 + 1)) xs614))))) ∧ ((decide (x568 < (r464.length : Int))) = false → Q xs569 0)))))))))))))
theorem k_spec_LeftOver {orders_ : (List S_Order)} {returns_ : (List S_Return)} {days_ : Int} {Q : (List Int) → Int → Prop} (h : w_spec_LeftOver orders_ returns_ days_ Q) {H : Hp} {vorders_ : Value} (rorders_ : SlR R_Order 5 H orders_ vorders_) {vreturns_ : Value} (rreturns_ : SlR R_Return 4 H returns_ vreturns_) {K : Value → Hp → Prop} (hK : ∀ (r0 : (List Int)) (r1 : Int), Q r0 r1 → ∀ (H' : Hp) (kb0 : Option Nat) (v0 : Value) (rows0 : List (List Value)), Live H' → Loc H H' [.own kb0 2 1 v0 rows0] → Rows (RI .i64) H r0 rows0 → K (.tuple #[v0, Value.int .i64 r1]) H') :
    ACalls Go.Proofs.Try.prog n_spec_LeftOver #[vorders_, vreturns_, Value.int .i64 days_] H K := by
  unfold w_spec_LeftOver at h
  have h := h rorders_.le
  have h := h rreturns_.le
  refine acalls_go fn_spec_LeftOver rfl fun hl => ?_
  simp only [c_spec_LeftOver]
  have hL := Loc.nil H
  (try simp only [go_sem, ↓reduceIte, Nat.reduceEqDiff, reduceCtorEq, Nat.reduceAdd, Nat.reduceLeDiff, Nat.reduceSub, Nat.reduceMul, Int.reduceEq, Nat.reduceBEq])
  refine aw_call (by (try simp only [go_sem, ↓reduceIte, Nat.reduceEqDiff, reduceCtorEq, Nat.reduceAdd, Nat.reduceLeDiff, Nat.reduceSub, Nat.reduceMul, Int.reduceEq, Nat.reduceBEq]) <;> rfl) (by (try simp only [go_sem, ↓reduceIte, Nat.reduceEqDiff, reduceCtorEq, Nat.reduceAdd, Nat.reduceLeDiff, Nat.reduceSub, Nat.reduceMul, Int.reduceEq, Nat.reduceBEq]) <;> rfl) (k_spec_l06Days h fun r1 h => ?_)
  (try simp only [go_sem, ↓reduceIte, Nat.reduceEqDiff, reduceCtorEq, Nat.reduceAdd, Nat.reduceLeDiff, Nat.reduceSub, Nat.reduceMul, Int.reduceEq, Nat.reduceBEq])
  refine aw_call (by (try simp only [go_sem, ↓reduceIte, Nat.reduceEqDiff, reduceCtorEq, Nat.reduceAdd, Nat.reduceLeDiff, Nat.reduceSub, Nat.reduceMul, Int.reduceEq, Nat.reduceBEq]) <;> rfl) (by (try simp only [go_sem, ↓reduceIte, Nat.reduceEqDiff, reduceCtorEq, Nat.reduceAdd, Nat.reduceLeDiff, Nat.reduceSub, Nat.reduceMul, Int.reduceEq, Nat.reduceBEq]) <;> rfl) (k_spec_l06Asked h (rorders_.sub R_Order.ok hL.sub) (rreturns_.sub R_Return.ok hL.sub) fun r3 h => ?_)
  (try simp only [go_sem, ↓reduceIte, Nat.reduceEqDiff, reduceCtorEq, Nat.reduceAdd, Nat.reduceLeDiff, Nat.reduceSub, Nat.reduceMul, Int.reduceEq, Nat.reduceBEq])
  cases hc5 : (!decide (r3 = 0)) with
  | true =>
    have h := h.1 hc5
    (try simp only [go_sem, ↓reduceIte, Nat.reduceEqDiff, reduceCtorEq, Nat.reduceAdd, Nat.reduceLeDiff, Nat.reduceSub, Nat.reduceMul, Int.reduceEq, Nat.reduceBEq, hc5])
    refine awL_bsl0 1 hl hL fun b9 v10 H6 hl7 hL8 => ?_
    have hr11 : Rows (RI .i64) H ([] : List Int) [] := Rows.nil (RI .i64) H
    (try simp only [go_sem, ↓reduceIte, Nat.reduceEqDiff, reduceCtorEq, Nat.reduceAdd, Nat.reduceLeDiff, Nat.reduceSub, Nat.reduceMul, Int.reduceEq, Nat.reduceBEq, hc5])
    exact retQ_r2 (by (try simp only [go_sem, ↓reduceIte, Nat.reduceEqDiff, reduceCtorEq, Nat.reduceAdd, Nat.reduceLeDiff, Nat.reduceSub, Nat.reduceMul, Int.reduceEq, Nat.reduceBEq, hc5]) <;> rfl) (by (try simp only [go_sem, ↓reduceIte, Nat.reduceEqDiff, reduceCtorEq, Nat.reduceAdd, Nat.reduceLeDiff, Nat.reduceSub, Nat.reduceMul, Int.reduceEq, Nat.reduceBEq, hc5]) <;> rfl) H6 (Hp.sub.refl _) (hK _ _ h H6 (some b9) v10 [] hl7 (hL8.sel [0] (by decide)) hr11)
  | false =>
    have h := h.2 hc5
    (try simp only [go_sem, ↓reduceIte, Nat.reduceEqDiff, reduceCtorEq, Nat.reduceAdd, Nat.reduceLeDiff, Nat.reduceSub, Nat.reduceMul, Int.reduceEq, Nat.reduceBEq, hc5])
    refine awL_bsl0 1 hl hL fun b16 v17 H13 hl14 hL15 => ?_
    have hr18 : Rows (RI .i64) H ([] : List Int) [] := Rows.nil (RI .i64) H
    (try simp only [go_sem, ↓reduceIte, Nat.reduceEqDiff, reduceCtorEq, Nat.reduceAdd, Nat.reduceLeDiff, Nat.reduceSub, Nat.reduceMul, Int.reduceEq, Nat.reduceBEq, hc5])
    obtain ⟨I424, ⟨m0, h0⟩, hSI424⟩ := h
    refine aw_loopM hl14 (fun m434 T' H' => ∃ x418 xs419 kb420 v421 rows422, I424 m434 x418 xs419 ∧ T' 9 = v421 ∧ T' 10 = Value.int .i64 x418 ∧ Loc H H' [.own kb420 2 1 v421 rows422] ∧ Rows (RI .i64) H xs419 rows422) m0 H13 (Hp.sub.refl _) ⟨0, ([] : List Int), (some b16), v17, [], h0, (by (try simp only [go_sem, ↓reduceIte, Nat.reduceEqDiff, reduceCtorEq, Nat.reduceAdd, Nat.reduceLeDiff, Nat.reduceSub, Nat.reduceMul, Int.reduceEq, Nat.reduceBEq, hc5]) <;> rfl), (by (try simp only [go_sem, ↓reduceIte, Nat.reduceEqDiff, reduceCtorEq, Nat.reduceAdd, Nat.reduceLeDiff, Nat.reduceSub, Nat.reduceMul, Int.reduceEq, Nat.reduceBEq, hc5]) <;> rfl), hL15, hr18⟩ ?_
    rintro m434 T427 H426 hl428 ho429 ⟨x418, xs419, kb420, v421, rows422, hI431, t432, t433, hL430, hr423⟩
    have t437 : T427 0 = vorders_ := by rw [ho429.get rfl]; (try simp only [go_sem, ↓reduceIte, Nat.reduceEqDiff, reduceCtorEq, Nat.reduceAdd, Nat.reduceLeDiff, Nat.reduceSub, Nat.reduceMul, Int.reduceEq, Nat.reduceBEq, hc5])
    have t438 : T427 1 = vreturns_ := by rw [ho429.get rfl]; (try simp only [go_sem, ↓reduceIte, Nat.reduceEqDiff, reduceCtorEq, Nat.reduceAdd, Nat.reduceLeDiff, Nat.reduceSub, Nat.reduceMul, Int.reduceEq, Nat.reduceBEq, hc5])
    have t439 : T427 2 = Value.int .i64 days_ := by rw [ho429.get rfl]; (try simp only [go_sem, ↓reduceIte, Nat.reduceEqDiff, reduceCtorEq, Nat.reduceAdd, Nat.reduceLeDiff, Nat.reduceSub, Nat.reduceMul, Int.reduceEq, Nat.reduceBEq, hc5])
    have h := hSI424 m434 x418 xs419 hI431
    have hn440 := rreturns_.len
    (try simp only [go_sem, ↓reduceIte, Nat.reduceEqDiff, reduceCtorEq, Nat.reduceAdd, Nat.reduceLeDiff, Nat.reduceSub, Nat.reduceMul, Int.reduceEq, Nat.reduceBEq, t432, t433, t437, t438, t439, hc5, hn440])
    cases hc441 : (decide (x418 < (returns_.length : Int))) with
    | true =>
      have h := h.1 hc441
      obtain ⟨hi442, h⟩ := h
      obtain ⟨b443, o448, c444, hia445, hrd446, hR447⟩ := SlR.atB rreturns_ hL430.sub (k := .i64) hi442
      obtain rfl : c444 = [Value.int .i8 ((gt returns_ x418).fBuyer), Value.int .i8 ((gt returns_ x418).fItem), Value.int .i16 ((gt returns_ x418).fNumber), Value.int .i16 ((gt returns_ x418).fDay)] := hR447
      have hrp449 : rdObj (H426 b443) (o448 + 2) 1 = some [Value.int .i16 ((gt returns_ x418).fNumber)] := rd_part (k := 2) (m := 1) hrd446 (by omega)
      (try simp only [go_sem, ↓reduceIte, Nat.reduceEqDiff, reduceCtorEq, Nat.reduceAdd, Nat.reduceLeDiff, Nat.reduceSub, Nat.reduceMul, Int.reduceEq, Nat.reduceBEq, t432, t433, t437, t438, t439, hc5, hn440, hc441, hia445, hrd446, hrp449])
      refine awL_bsl1 [Value.int .i64 (IntKind.i64.wrap ((gt returns_ x418).fNumber))] hl428 hL430 (by (try simp only [go_sem, ↓reduceIte, Nat.reduceEqDiff, reduceCtorEq, Nat.reduceAdd, Nat.reduceLeDiff, Nat.reduceSub, Nat.reduceMul, Int.reduceEq, Nat.reduceBEq, t432, t433, t437, t438, t439, hc5, hn440, hc441, hia445, hrd446, hrp449]) <;> rfl) rfl rfl fun b453 v454 H450 hl451 hL452 => ?_
      have hr455 : Rows (RI .i64) H [(IntKind.i64.wrap ((gt returns_ x418).fNumber))] [[Value.int .i64 (IntKind.i64.wrap ((gt returns_ x418).fNumber))]] := (Rows.nil (RI .i64) H).snoc (show (RI .i64) H (IntKind.i64.wrap ((gt returns_ x418).fNumber)) [Value.int .i64 (IntKind.i64.wrap ((gt returns_ x418).fNumber))] from rfl)
      obtain ⟨hc457, h⟩ := h
      (try simp only [go_sem, ↓reduceIte, Nat.reduceEqDiff, reduceCtorEq, Nat.reduceAdd, Nat.reduceLeDiff, Nat.reduceSub, Nat.reduceMul, Int.reduceEq, Nat.reduceBEq, t432, t433, t437, t438, t439, hc5, hn440, hc441, hia445])
      refine awL_app1 1 0 hl451 hL452 rfl rfl (by (try simp only [go_sem, ↓reduceIte, Nat.reduceEqDiff, reduceCtorEq, Nat.reduceAdd, Nat.reduceLeDiff, Nat.reduceSub, Nat.reduceMul, Int.reduceEq, Nat.reduceBEq, t432, t433, t437, t438, t439, hc5, hn440, hc441, hia445]) <;> rfl) (by (try simp only [go_sem, ↓reduceIte, Nat.reduceEqDiff, reduceCtorEq, Nat.reduceAdd, Nat.reduceLeDiff, Nat.reduceSub, Nat.reduceMul, Int.reduceEq, Nat.reduceBEq, t432, t433, t437, t438, t439, hc5, hn440, hc441, hia445]) <;> rfl) rfl (by omega) (by rw [hr423.1]; exact hc457) fun kb461 v462 H458 hl459 hL460 => ?_
      have hr463 := hr423.snoc (show (RI .i64) H (IntKind.i64.wrap ((gt returns_ x418).fNumber)) [Value.int .i64 (IntKind.i64.wrap ((gt returns_ x418).fNumber))] from rfl)
      obtain ⟨m435, hm436, h⟩ := h
      (try simp only [go_sem, ↓reduceIte, Nat.reduceEqDiff, reduceCtorEq, Nat.reduceAdd, Nat.reduceLeDiff, Nat.reduceSub, Nat.reduceMul, Int.reduceEq, Nat.reduceBEq, t432, t433, t437, t438, t439, hc5, hn440, hc441, hia445])
      exact ⟨m435, H458, hm436, Hp.sub.refl _, (IntKind.i64.wrap (x418 + 1)), (xs419 ++ [(IntKind.i64.wrap ((gt returns_ x418).fNumber))]), kb461, v462, (rows422 ++ [[Value.int .i64 (IntKind.i64.wrap ((gt returns_ x418).fNumber))]]), h, (by (try simp only [go_sem, ↓reduceIte, Nat.reduceEqDiff, reduceCtorEq, Nat.reduceAdd, Nat.reduceLeDiff, Nat.reduceSub, Nat.reduceMul, Int.reduceEq, Nat.reduceBEq, t432, t433, t437, t438, t439, hc5, hn440, hc441, hia445]) <;> rfl), (by (try simp only [go_sem, ↓reduceIte, Nat.reduceEqDiff, reduceCtorEq, Nat.reduceAdd, Nat.reduceLeDiff, Nat.reduceSub, Nat.reduceMul, Int.reduceEq, Nat.reduceBEq, t432, t433, t437, t438, t439, hc5, hn440, hc441, hia445]) <;> rfl), (hL460.sel [1] (by decide)), hr463⟩
    | false =>
      have h := h.2 hc441
      (try simp only [go_sem, ↓reduceIte, Nat.reduceEqDiff, reduceCtorEq, Nat.reduceAdd, Nat.reduceLeDiff, Nat.reduceSub, Nat.reduceMul, Int.reduceEq, Nat.reduceBEq, t432, t433, t437, t438, t439, hc5, hn440, hc441])
      refine aw_callL (by (try simp only [go_sem, ↓reduceIte, Nat.reduceEqDiff, reduceCtorEq, Nat.reduceAdd, Nat.reduceLeDiff, Nat.reduceSub, Nat.reduceMul, Int.reduceEq, Nat.reduceBEq, t432, t433, t437, t438, t439, hc5, hn440, hc441]) <;> rfl) (by (try simp only [go_sem, ↓reduceIte, Nat.reduceEqDiff, reduceCtorEq, Nat.reduceAdd, Nat.reduceLeDiff, Nat.reduceSub, Nat.reduceMul, Int.reduceEq, Nat.reduceBEq, t432, t433, t437, t438, t439, hc5, hn440, hc441]) <;> rfl) (k_spec_l06Matches h (rorders_.sub R_Order.ok hL430.sub) (rreturns_.sub R_Return.ok hL430.sub) fun r464 h H466 kb470 v471 rows472 _ hL468 hr473 hl467 => ?_)
      have hL469 := hL430.call hL468
      have hr473' : Rows R_Match H r464 rows472 := Rows.flat (fun _ _ hx => hx) hr473
      (try simp only [go_sem, ↓reduceIte, Nat.reduceEqDiff, reduceCtorEq, Nat.reduceAdd, Nat.reduceLeDiff, Nat.reduceSub, Nat.reduceMul, Int.reduceEq, Nat.reduceBEq, t432, t433, t437, t438, t439, hc5, hn440, hc441])
      obtain ⟨I574, ⟨m0, h0⟩, hSI574⟩ := h
      refine aw_loopM hl467 (fun m583 T' H' => ∃ x568 xs569 rows572, I574 m583 x568 xs569 ∧ T' 12 = Value.int .i64 x568 ∧ Loc H H' [.own kb470 131 3 v471 rows472, .own kb420 2 1 v421 rows572] ∧ Rows (RI .i64) H xs569 rows572) m0 H466 (Hp.sub.refl _) ⟨0, xs419, rows422, h0, (by (try simp only [go_sem, ↓reduceIte, Nat.reduceEqDiff, reduceCtorEq, Nat.reduceAdd, Nat.reduceLeDiff, Nat.reduceSub, Nat.reduceMul, Int.reduceEq, Nat.reduceBEq, t432, t433, t437, t438, t439, hc5, hn440, hc441]) <;> rfl), hL469, hr423⟩ ?_
      rintro m583 T577 H576 hl578 ho579 ⟨x568, xs569, rows572, hI581, t582, hL580, hr573⟩
      have t586 : T577 9 = v421 := by rw [ho579.get rfl]; (try simp only [go_sem, ↓reduceIte, Nat.reduceEqDiff, reduceCtorEq, Nat.reduceAdd, Nat.reduceLeDiff, Nat.reduceSub, Nat.reduceMul, Int.reduceEq, Nat.reduceBEq, t432, t433, t437, t438, t439, hc5, hn440, hc441])
      have t587 : T577 11 = v471 := by rw [ho579.get rfl]; (try simp only [go_sem, ↓reduceIte, Nat.reduceEqDiff, reduceCtorEq, Nat.reduceAdd, Nat.reduceLeDiff, Nat.reduceSub, Nat.reduceMul, Int.reduceEq, Nat.reduceBEq, t432, t433, t437, t438, t439, hc5, hn440, hc441])
      have h := hSI574 m583 x568 xs569 hI581
      have hn588 := hL580.lenR 0 rfl hr473'
      (try simp only [go_sem, ↓reduceIte, Nat.reduceEqDiff, reduceCtorEq, Nat.reduceAdd, Nat.reduceLeDiff, Nat.reduceSub, Nat.reduceMul, Int.reduceEq, Nat.reduceBEq, t582, t586, t587, hc5, hn440, hc441, hn588])
      cases hc589 : (decide (x568 < (r464.length : Int))) with
      | true =>
        have h := h.1 hc589
        obtain ⟨hi590, h⟩ := h
        obtain ⟨b591, c592, hkb596, hia593, hrd594, hg597, hlt598, hR595⟩ := hL580.atR 0 rfl hr473' (k := .i64) hi590
        obtain rfl : c592 = [Value.int .i8 ((gt r464 x568).fReturn), Value.int .i8 ((gt r464 x568).fOrder), Value.int .i16 ((gt r464 x568).fNumber)] := hR595
        have hrp599 : rdObj (H576 b591) ((x568).toNat * 3) 1 = some [Value.int .i8 ((gt r464 x568).fReturn)] := rd_part (k := 0) (m := 1) hrd594 (by omega)
        obtain ⟨hi600, h⟩ := h
        obtain ⟨b601, c602, hkb606, hia603, hrd604, hg607, hlt608, hR605⟩ := hL580.atR 1 rfl hr573 (k := .i8) hi600
        obtain rfl : c602 = [Value.int .i64 (gt xs569 ((gt r464 x568).fReturn))] := hR605
        have hrp609 : rdObj (H576 b591) (((x568).toNat * 3) + 2) 1 = some [Value.int .i16 ((gt r464 x568).fNumber)] := rd_part (k := 2) (m := 1) hrd594 (by omega)
        (try simp only [go_sem, ↓reduceIte, Nat.reduceEqDiff, reduceCtorEq, Nat.reduceAdd, Nat.reduceLeDiff, Nat.reduceSub, Nat.reduceMul, Int.reduceEq, Nat.reduceBEq, t582, t586, t587, hc5, hn440, hc441, hn588, hc589, hia593, hia603, hrd594, hrp599, hrd604, hrp609])
        refine awL_wrR (sub := 0) (r' := [Value.int .i64 (IntKind.i64.wrap ((gt xs569 ((gt r464 x568).fReturn)) - (IntKind.i64.wrap ((gt r464 x568).fNumber))))]) 1 hl578 hL580 rfl hkb606 hlt608 hg607 (by (try simp only [go_sem, ↓reduceIte, Nat.reduceEqDiff, reduceCtorEq, Nat.reduceAdd, Nat.reduceLeDiff, Nat.reduceSub, Nat.reduceMul, Int.reduceEq, Nat.reduceBEq, t582, t586, t587, hc5, hn440, hc441, hn588, hc589, hia593, hia603, hrd594, hrp599, hrd604, hrp609]) <;> rfl) rfl (by (try simp only [go_sem, ↓reduceIte, Nat.reduceEqDiff, reduceCtorEq, Nat.reduceAdd, Nat.reduceLeDiff, Nat.reduceSub, Nat.reduceMul, Int.reduceEq, Nat.reduceBEq, t582, t586, t587, hc5, hn440, hc441, hn588, hc589, hia593, hia603, hrd594, hrp599, hrd604, hrp609]) <;> rfl) (by (try simp only [go_sem, ↓reduceIte, Nat.reduceEqDiff, reduceCtorEq, Nat.reduceAdd, Nat.reduceLeDiff, Nat.reduceSub, Nat.reduceMul, Int.reduceEq, Nat.reduceBEq, t582, t586, t587, hc5, hn440, hc441, hn588, hc589, hia593, hia603, hrd594, hrp599, hrd604, hrp609]) <;> rfl) fun H610 hl611 hL612 => ?_
        have hr613 := hr573.set ((gt r464 x568).fReturn).toNat (show (RI .i64) H (IntKind.i64.wrap ((gt xs569 ((gt r464 x568).fReturn)) - (IntKind.i64.wrap ((gt r464 x568).fNumber)))) [Value.int .i64 (IntKind.i64.wrap ((gt xs569 ((gt r464 x568).fReturn)) - (IntKind.i64.wrap ((gt r464 x568).fNumber))))] from rfl)
        obtain ⟨xs614, hxs615⟩ : ∃ ys, ys = (xs569.set ((gt r464 x568).fReturn).toNat (IntKind.i64.wrap ((gt xs569 ((gt r464 x568).fReturn)) - (IntKind.i64.wrap ((gt r464 x568).fNumber))))) := ⟨_, rfl⟩
        rw [← hxs615] at hr613
        have h := h xs614 hxs615
        generalize (rows572.set ((gt r464 x568).fReturn).toNat [Value.int .i64 (IntKind.i64.wrap ((gt xs569 ((gt r464 x568).fReturn)) - (IntKind.i64.wrap ((gt r464 x568).fNumber))))]) = rows616 at hL612 hr613
        obtain ⟨m584, hm585, h⟩ := h
        (try simp only [go_sem, ↓reduceIte, Nat.reduceEqDiff, reduceCtorEq, Nat.reduceAdd, Nat.reduceLeDiff, Nat.reduceSub, Nat.reduceMul, Int.reduceEq, Nat.reduceBEq, t582, t586, t587, hc5, hn440, hc441, hn588, hc589, hia593, hia603])
        exact ⟨m584, H610, hm585, Hp.sub.refl _, (IntKind.i64.wrap (x568 + 1)), xs614, rows616, h, (by (try simp only [go_sem, ↓reduceIte, Nat.reduceEqDiff, reduceCtorEq, Nat.reduceAdd, Nat.reduceLeDiff, Nat.reduceSub, Nat.reduceMul, Int.reduceEq, Nat.reduceBEq, t582, t586, t587, hc5, hn440, hc441, hn588, hc589, hia593, hia603]) <;> rfl), hL612, hr613⟩
      | false =>
        have h := h.2 hc589
        (try simp only [go_sem, ↓reduceIte, Nat.reduceEqDiff, reduceCtorEq, Nat.reduceAdd, Nat.reduceLeDiff, Nat.reduceSub, Nat.reduceMul, Int.reduceEq, Nat.reduceBEq, t582, t586, t587, hc5, hn440, hc441, hn588, hc589])
        exact retQ_r2 (by (try simp only [go_sem, ↓reduceIte, Nat.reduceEqDiff, reduceCtorEq, Nat.reduceAdd, Nat.reduceLeDiff, Nat.reduceSub, Nat.reduceMul, Int.reduceEq, Nat.reduceBEq, t582, t586, t587, hc5, hn440, hc441, hn588, hc589]) <;> rfl) (by (try simp only [go_sem, ↓reduceIte, Nat.reduceEqDiff, reduceCtorEq, Nat.reduceAdd, Nat.reduceLeDiff, Nat.reduceSub, Nat.reduceMul, Int.reduceEq, Nat.reduceBEq, t582, t586, t587, hc5, hn440, hc441, hn588, hc589]) <;> rfl) H576 (Hp.sub.refl _) (hK _ _ h H576 kb420 v421 rows572 hl578 (hL580.sel [1] (by decide)) hr573)
def w_impl_within (n_ : Int) (low_ : Int) (high_ : Int) (Q : Bool → Prop) : Prop := Q ((decide (low_ ≤ n_)) && (decide (n_ ≤ high_)))
theorem k_impl_within {n_ : Int} {low_ : Int} {high_ : Int} {Q : Bool → Prop} (h : w_impl_within n_ low_ high_ Q) {H : Hp} {K : Value → Hp → Prop} (hK : ∀ (r0 : Bool), Q r0 → K (Value.bool r0) H) :
    ACalls Go.Proofs.Try.prog n_impl_within #[Value.int .i64 n_, Value.int .i64 low_, Value.int .i64 high_] H K := by
  unfold w_impl_within at h
  refine acalls_go fn_impl_within rfl fun hl => ?_
  simp only [c_impl_within]
  have hL := Loc.nil H
  (try simp only [go_sem, ↓reduceIte, Nat.reduceEqDiff, reduceCtorEq, Nat.reduceAdd, Nat.reduceLeDiff, Nat.reduceSub, Nat.reduceMul, Int.reduceEq, Nat.reduceBEq])
  refine aw_cut 4 (fun T' H' => T' 14 = Value.bool ((decide (low_ ≤ n_)) && (decide (n_ ≤ high_))) ∧ H' = H) hl rfl ?_ (fun T2 H3 _ ho4 hj5 => ?_)
  · cases hc1 : (decide (low_ ≤ n_)) with
    | true =>
      simp only [opsK]
      (try simp only [go_sem, ↓reduceIte, Nat.reduceEqDiff, reduceCtorEq, Nat.reduceAdd, Nat.reduceLeDiff, Nat.reduceSub, Nat.reduceMul, Int.reduceEq, Nat.reduceBEq, hc1])
      exact ⟨by (try simp only [go_sem, ↓reduceIte, Nat.reduceEqDiff, reduceCtorEq, Nat.reduceAdd, Nat.reduceLeDiff, Nat.reduceSub, Nat.reduceMul, Int.reduceEq, Nat.reduceBEq, hc1, Bool.false_and, Bool.true_or, Bool.false_or]), rfl⟩
    | false =>
      simp only [opsK]
      (try simp only [go_sem, ↓reduceIte, Nat.reduceEqDiff, reduceCtorEq, Nat.reduceAdd, Nat.reduceLeDiff, Nat.reduceSub, Nat.reduceMul, Int.reduceEq, Nat.reduceBEq, hc1])
      exact ⟨by (try simp only [go_sem, ↓reduceIte, Nat.reduceEqDiff, reduceCtorEq, Nat.reduceAdd, Nat.reduceLeDiff, Nat.reduceSub, Nat.reduceMul, Int.reduceEq, Nat.reduceBEq, Bool.false_and, Bool.true_or, Bool.false_or]), rfl⟩
  obtain ⟨t6, hH7⟩ := hj5
  rw [hH7]
  (try simp only [go_sem, ↓reduceIte, Nat.reduceEqDiff, reduceCtorEq, Nat.reduceAdd, Nat.reduceLeDiff, Nat.reduceSub, Nat.reduceMul, Int.reduceEq, Nat.reduceBEq, t6])
  exact retQ_r1 (by (try simp only [go_sem, ↓reduceIte, Nat.reduceEqDiff, reduceCtorEq, Nat.reduceAdd, Nat.reduceLeDiff, Nat.reduceSub, Nat.reduceMul, Int.reduceEq, Nat.reduceBEq, t6]) <;> rfl) H hL.sub (hK _ h)
def w_impl_isBuyer (n_ : Int) (Q : Bool → Prop) : Prop := (w_impl_within n_ 0 8 fun r1 => Q r1)
theorem k_impl_isBuyer {n_ : Int} {Q : Bool → Prop} (h : w_impl_isBuyer n_ Q) {H : Hp} {K : Value → Hp → Prop} (hK : ∀ (r0 : Bool), Q r0 → K (Value.bool r0) H) :
    ACalls Go.Proofs.Try.prog n_impl_isBuyer #[Value.int .i64 n_] H K := by
  unfold w_impl_isBuyer at h
  refine acalls_go fn_impl_isBuyer rfl fun hl => ?_
  simp only [c_impl_isBuyer]
  have hL := Loc.nil H
  (try simp only [go_sem, ↓reduceIte, Nat.reduceEqDiff, reduceCtorEq, Nat.reduceAdd, Nat.reduceLeDiff, Nat.reduceSub, Nat.reduceMul, Int.reduceEq, Nat.reduceBEq])
  refine aw_call (by (try simp only [go_sem, ↓reduceIte, Nat.reduceEqDiff, reduceCtorEq, Nat.reduceAdd, Nat.reduceLeDiff, Nat.reduceSub, Nat.reduceMul, Int.reduceEq, Nat.reduceBEq]) <;> rfl) (by (try simp only [go_sem, ↓reduceIte, Nat.reduceEqDiff, reduceCtorEq, Nat.reduceAdd, Nat.reduceLeDiff, Nat.reduceSub, Nat.reduceMul, Int.reduceEq, Nat.reduceBEq]) <;> rfl) (k_impl_within h fun r1 h => ?_)
  (try simp only [go_sem, ↓reduceIte, Nat.reduceEqDiff, reduceCtorEq, Nat.reduceAdd, Nat.reduceLeDiff, Nat.reduceSub, Nat.reduceMul, Int.reduceEq, Nat.reduceBEq])
  exact retQ_r1 (by (try simp only [go_sem, ↓reduceIte, Nat.reduceEqDiff, reduceCtorEq, Nat.reduceAdd, Nat.reduceLeDiff, Nat.reduceSub, Nat.reduceMul, Int.reduceEq, Nat.reduceBEq]) <;> rfl) H hL.sub (hK _ h)
def w_impl_isItem (n_ : Int) (Q : Bool → Prop) : Prop := (w_impl_within n_ 0 11 fun r1 => Q r1)
theorem k_impl_isItem {n_ : Int} {Q : Bool → Prop} (h : w_impl_isItem n_ Q) {H : Hp} {K : Value → Hp → Prop} (hK : ∀ (r0 : Bool), Q r0 → K (Value.bool r0) H) :
    ACalls Go.Proofs.Try.prog n_impl_isItem #[Value.int .i64 n_] H K := by
  unfold w_impl_isItem at h
  refine acalls_go fn_impl_isItem rfl fun hl => ?_
  simp only [c_impl_isItem]
  have hL := Loc.nil H
  (try simp only [go_sem, ↓reduceIte, Nat.reduceEqDiff, reduceCtorEq, Nat.reduceAdd, Nat.reduceLeDiff, Nat.reduceSub, Nat.reduceMul, Int.reduceEq, Nat.reduceBEq])
  refine aw_call (by (try simp only [go_sem, ↓reduceIte, Nat.reduceEqDiff, reduceCtorEq, Nat.reduceAdd, Nat.reduceLeDiff, Nat.reduceSub, Nat.reduceMul, Int.reduceEq, Nat.reduceBEq]) <;> rfl) (by (try simp only [go_sem, ↓reduceIte, Nat.reduceEqDiff, reduceCtorEq, Nat.reduceAdd, Nat.reduceLeDiff, Nat.reduceSub, Nat.reduceMul, Int.reduceEq, Nat.reduceBEq]) <;> rfl) (k_impl_within h fun r1 h => ?_)
  (try simp only [go_sem, ↓reduceIte, Nat.reduceEqDiff, reduceCtorEq, Nat.reduceAdd, Nat.reduceLeDiff, Nat.reduceSub, Nat.reduceMul, Int.reduceEq, Nat.reduceBEq])
  exact retQ_r1 (by (try simp only [go_sem, ↓reduceIte, Nat.reduceEqDiff, reduceCtorEq, Nat.reduceAdd, Nat.reduceLeDiff, Nat.reduceSub, Nat.reduceMul, Int.reduceEq, Nat.reduceBEq]) <;> rfl) H hL.sub (hK _ h)
def w_impl_isReturn (r_ : S_Return) (Q : Bool → Prop) : Prop := (w_impl_isBuyer (IntKind.i64.wrap r_.fBuyer) fun r7 => (∃ k10 : Bool → Prop, (∀ x11, k10 x11 → (∃ k24 : Bool → Prop, (∀ x25, k24 x25 → (∃ k38 : Bool → Prop, (∀ x39, k38 x39 → Q x39) ∧ (x25 = true → (w_impl_within (IntKind.i64.wrap r_.fDay) 0 1000 fun r40 => k38 r40)) ∧ (x25 = false → k38 false))) ∧ (x11 = true → (w_impl_within (IntKind.i64.wrap r_.fNumber) 1 100 fun r26 => k24 r26)) ∧ (x11 = false → k24 false))) ∧ (r7 = true → (w_impl_isItem (IntKind.i64.wrap r_.fItem) fun r12 => k10 r12)) ∧ (r7 = false → k10 false)))
theorem k_impl_isReturn {r_ : S_Return} {Q : Bool → Prop} (h : w_impl_isReturn r_ Q) {H : Hp} {csr_ : List Value} (rr_ : R_Return H r_ csr_) {K : Value → Hp → Prop} (hK : ∀ (r0 : Bool), Q r0 → K (Value.bool r0) H) :
    ACalls Go.Proofs.Try.prog n_impl_isReturn #[.agg csr_.toArray] H K := by
  unfold w_impl_isReturn at h
  obtain rfl : csr_ = [Value.int .i8 r_.fBuyer, Value.int .i8 r_.fItem, Value.int .i16 r_.fNumber, Value.int .i16 r_.fDay] := rr_
  refine acalls_go fn_impl_isReturn rfl fun hl => ?_
  simp only [c_impl_isReturn]
  have hL := Loc.nil H
  (try simp only [go_sem, ↓reduceIte, Nat.reduceEqDiff, reduceCtorEq, Nat.reduceAdd, Nat.reduceLeDiff, Nat.reduceSub, Nat.reduceMul, Int.reduceEq, Nat.reduceBEq])
  refine awL_box [Value.int .i8 r_.fBuyer, Value.int .i8 r_.fItem, Value.int .i16 r_.fNumber, Value.int .i16 r_.fDay] hl hL (by (try simp only [go_sem, ↓reduceIte, Nat.reduceEqDiff, reduceCtorEq, Nat.reduceAdd, Nat.reduceLeDiff, Nat.reduceSub, Nat.reduceMul, Int.reduceEq, Nat.reduceBEq]) <;> rfl) fun b1 H2 hl3 hL4 => ?_
  have hb6 := hL4.box 0 rfl
  (try simp only [go_sem, ↓reduceIte, Nat.reduceEqDiff, reduceCtorEq, Nat.reduceAdd, Nat.reduceLeDiff, Nat.reduceSub, Nat.reduceMul, Int.reduceEq, Nat.reduceBEq, hb6])
  refine aw_call (by (try simp only [go_sem, ↓reduceIte, Nat.reduceEqDiff, reduceCtorEq, Nat.reduceAdd, Nat.reduceLeDiff, Nat.reduceSub, Nat.reduceMul, Int.reduceEq, Nat.reduceBEq, hb6]) <;> rfl) (by (try simp only [go_sem, ↓reduceIte, Nat.reduceEqDiff, reduceCtorEq, Nat.reduceAdd, Nat.reduceLeDiff, Nat.reduceSub, Nat.reduceMul, Int.reduceEq, Nat.reduceBEq, hb6]) <;> rfl) (k_impl_isBuyer h fun r7 h => ?_)
  (try simp only [go_sem, ↓reduceIte, Nat.reduceEqDiff, reduceCtorEq, Nat.reduceAdd, Nat.reduceLeDiff, Nat.reduceSub, Nat.reduceMul, Int.reduceEq, Nat.reduceBEq, hb6])
  obtain ⟨k10, hk14, hk10, h15⟩ := h
  refine aw_cut 5 (fun T' H' => ∃ x11, k10 x11 ∧ T' 12 = Value.bool x11 ∧ H' = H2) hl3 rfl ?_ (fun T16 H17 _ ho18 hj19 => ?_)
  · cases hc9 : r7 with
    | true =>
      simp only [opsK]
      have h := hk10 hc9
      (try simp only [go_sem, ↓reduceIte, Nat.reduceEqDiff, reduceCtorEq, Nat.reduceAdd, Nat.reduceLeDiff, Nat.reduceSub, Nat.reduceMul, Int.reduceEq, Nat.reduceBEq, hc9, hb6])
      refine aw_call (by (try simp only [go_sem, ↓reduceIte, Nat.reduceEqDiff, reduceCtorEq, Nat.reduceAdd, Nat.reduceLeDiff, Nat.reduceSub, Nat.reduceMul, Int.reduceEq, Nat.reduceBEq, hc9, hb6]) <;> rfl) (by (try simp only [go_sem, ↓reduceIte, Nat.reduceEqDiff, reduceCtorEq, Nat.reduceAdd, Nat.reduceLeDiff, Nat.reduceSub, Nat.reduceMul, Int.reduceEq, Nat.reduceBEq, hc9, hb6]) <;> rfl) (k_impl_isItem h fun r12 h => ?_)
      (try simp only [go_sem, ↓reduceIte, Nat.reduceEqDiff, reduceCtorEq, Nat.reduceAdd, Nat.reduceLeDiff, Nat.reduceSub, Nat.reduceMul, Int.reduceEq, Nat.reduceBEq, hc9, hb6])
      exact ⟨r12, h, by (try simp only [go_sem, ↓reduceIte, Nat.reduceEqDiff, reduceCtorEq, Nat.reduceAdd, Nat.reduceLeDiff, Nat.reduceSub, Nat.reduceMul, Int.reduceEq, Nat.reduceBEq, hc9, hb6]), rfl⟩
    | false =>
      simp only [opsK]
      (try simp only [go_sem, ↓reduceIte, Nat.reduceEqDiff, reduceCtorEq, Nat.reduceAdd, Nat.reduceLeDiff, Nat.reduceSub, Nat.reduceMul, Int.reduceEq, Nat.reduceBEq, hb6, hc9])
      exact ⟨false, h15 hc9, by (try simp only [go_sem, ↓reduceIte, Nat.reduceEqDiff, reduceCtorEq, Nat.reduceAdd, Nat.reduceLeDiff, Nat.reduceSub, Nat.reduceMul, Int.reduceEq, Nat.reduceBEq]), rfl⟩
  obtain ⟨x11, h, t20, hH21⟩ := hj19
  rw [hH21]
  have h := hk14 x11 h
  have t22 : T16 1 = Value.pointer (some ⟨b1, 0, none⟩) := by rw [ho18.get rfl]; (try simp only [go_sem, ↓reduceIte, Nat.reduceEqDiff, reduceCtorEq, Nat.reduceAdd, Nat.reduceLeDiff, Nat.reduceSub, Nat.reduceMul, Int.reduceEq, Nat.reduceBEq, hb6])
  (try simp only [go_sem, ↓reduceIte, Nat.reduceEqDiff, reduceCtorEq, Nat.reduceAdd, Nat.reduceLeDiff, Nat.reduceSub, Nat.reduceMul, Int.reduceEq, Nat.reduceBEq, t22, t20, hb6])
  obtain ⟨k24, hk28, hk24, h29⟩ := h
  refine aw_cut 5 (fun T' H' => ∃ x25, k24 x25 ∧ T' 18 = Value.bool x25 ∧ H' = H2) hl3 rfl ?_ (fun T30 H31 _ ho32 hj33 => ?_)
  · cases hc23 : x11 with
    | true =>
      simp only [opsK]
      have h := hk24 hc23
      (try simp only [go_sem, ↓reduceIte, Nat.reduceEqDiff, reduceCtorEq, Nat.reduceAdd, Nat.reduceLeDiff, Nat.reduceSub, Nat.reduceMul, Int.reduceEq, Nat.reduceBEq, t22, t20, hc23, hb6])
      refine aw_call (by (try simp only [go_sem, ↓reduceIte, Nat.reduceEqDiff, reduceCtorEq, Nat.reduceAdd, Nat.reduceLeDiff, Nat.reduceSub, Nat.reduceMul, Int.reduceEq, Nat.reduceBEq, t22, t20, hc23, hb6]) <;> rfl) (by (try simp only [go_sem, ↓reduceIte, Nat.reduceEqDiff, reduceCtorEq, Nat.reduceAdd, Nat.reduceLeDiff, Nat.reduceSub, Nat.reduceMul, Int.reduceEq, Nat.reduceBEq, t22, t20, hc23, hb6]) <;> rfl) (k_impl_within h fun r26 h => ?_)
      (try simp only [go_sem, ↓reduceIte, Nat.reduceEqDiff, reduceCtorEq, Nat.reduceAdd, Nat.reduceLeDiff, Nat.reduceSub, Nat.reduceMul, Int.reduceEq, Nat.reduceBEq, t22, t20, hc23, hb6])
      exact ⟨r26, h, by (try simp only [go_sem, ↓reduceIte, Nat.reduceEqDiff, reduceCtorEq, Nat.reduceAdd, Nat.reduceLeDiff, Nat.reduceSub, Nat.reduceMul, Int.reduceEq, Nat.reduceBEq, t22, t20, hc23, hb6]), rfl⟩
    | false =>
      simp only [opsK]
      (try simp only [go_sem, ↓reduceIte, Nat.reduceEqDiff, reduceCtorEq, Nat.reduceAdd, Nat.reduceLeDiff, Nat.reduceSub, Nat.reduceMul, Int.reduceEq, Nat.reduceBEq, t22, t20, hb6, hc23])
      exact ⟨false, h29 hc23, by (try simp only [go_sem, ↓reduceIte, Nat.reduceEqDiff, reduceCtorEq, Nat.reduceAdd, Nat.reduceLeDiff, Nat.reduceSub, Nat.reduceMul, Int.reduceEq, Nat.reduceBEq]), rfl⟩
  obtain ⟨x25, h, t34, hH35⟩ := hj33
  rw [hH35]
  have h := hk28 x25 h
  have t36 : T30 1 = Value.pointer (some ⟨b1, 0, none⟩) := by rw [ho32.get rfl]; (try simp only [go_sem, ↓reduceIte, Nat.reduceEqDiff, reduceCtorEq, Nat.reduceAdd, Nat.reduceLeDiff, Nat.reduceSub, Nat.reduceMul, Int.reduceEq, Nat.reduceBEq, t22, t20, hb6])
  (try simp only [go_sem, ↓reduceIte, Nat.reduceEqDiff, reduceCtorEq, Nat.reduceAdd, Nat.reduceLeDiff, Nat.reduceSub, Nat.reduceMul, Int.reduceEq, Nat.reduceBEq, t36, t34, hb6])
  obtain ⟨k38, hk42, hk38, h43⟩ := h
  refine aw_cut 5 (fun T' H' => ∃ x39, k38 x39 ∧ T' 24 = Value.bool x39 ∧ H' = H2) hl3 rfl ?_ (fun T44 H45 _ ho46 hj47 => ?_)
  · cases hc37 : x25 with
    | true =>
      simp only [opsK]
      have h := hk38 hc37
      (try simp only [go_sem, ↓reduceIte, Nat.reduceEqDiff, reduceCtorEq, Nat.reduceAdd, Nat.reduceLeDiff, Nat.reduceSub, Nat.reduceMul, Int.reduceEq, Nat.reduceBEq, t36, t34, hc37, hb6])
      refine aw_call (by (try simp only [go_sem, ↓reduceIte, Nat.reduceEqDiff, reduceCtorEq, Nat.reduceAdd, Nat.reduceLeDiff, Nat.reduceSub, Nat.reduceMul, Int.reduceEq, Nat.reduceBEq, t36, t34, hc37, hb6]) <;> rfl) (by (try simp only [go_sem, ↓reduceIte, Nat.reduceEqDiff, reduceCtorEq, Nat.reduceAdd, Nat.reduceLeDiff, Nat.reduceSub, Nat.reduceMul, Int.reduceEq, Nat.reduceBEq, t36, t34, hc37, hb6]) <;> rfl) (k_impl_within h fun r40 h => ?_)
      (try simp only [go_sem, ↓reduceIte, Nat.reduceEqDiff, reduceCtorEq, Nat.reduceAdd, Nat.reduceLeDiff, Nat.reduceSub, Nat.reduceMul, Int.reduceEq, Nat.reduceBEq, t36, t34, hc37, hb6])
      exact ⟨r40, h, by (try simp only [go_sem, ↓reduceIte, Nat.reduceEqDiff, reduceCtorEq, Nat.reduceAdd, Nat.reduceLeDiff, Nat.reduceSub, Nat.reduceMul, Int.reduceEq, Nat.reduceBEq, t36, t34, hc37, hb6]), rfl⟩
    | false =>
      simp only [opsK]
      (try simp only [go_sem, ↓reduceIte, Nat.reduceEqDiff, reduceCtorEq, Nat.reduceAdd, Nat.reduceLeDiff, Nat.reduceSub, Nat.reduceMul, Int.reduceEq, Nat.reduceBEq, t36, t34, hb6, hc37])
      exact ⟨false, h43 hc37, by (try simp only [go_sem, ↓reduceIte, Nat.reduceEqDiff, reduceCtorEq, Nat.reduceAdd, Nat.reduceLeDiff, Nat.reduceSub, Nat.reduceMul, Int.reduceEq, Nat.reduceBEq]), rfl⟩
  obtain ⟨x39, h, t48, hH49⟩ := hj47
  rw [hH49]
  have h := hk42 x39 h
  (try simp only [go_sem, ↓reduceIte, Nat.reduceEqDiff, reduceCtorEq, Nat.reduceAdd, Nat.reduceLeDiff, Nat.reduceSub, Nat.reduceMul, Int.reduceEq, Nat.reduceBEq, t48, hb6])
  exact retQ_r1 (by (try simp only [go_sem, ↓reduceIte, Nat.reduceEqDiff, reduceCtorEq, Nat.reduceAdd, Nat.reduceLeDiff, Nat.reduceSub, Nat.reduceMul, Int.reduceEq, Nat.reduceBEq, t48, hb6]) <;> rfl) H hL4.sub (hK _ h)
def w_impl_ValidOrders_1 (o_ : S_Order) (Q : Bool → Prop) : Prop := (w_impl_isReturn (⟨o_.fBuyer, o_.fItem, o_.fNumber, o_.fDay⟩ : S_Return) fun r7 => (∃ k10 : Bool → Prop, (∀ x11, k10 x11 → Q x11) ∧ ((!r7) = false → (w_impl_within (IntKind.i64.wrap o_.fPrice) 0 10000 fun r12 => k10 (!r12))) ∧ ((!r7) = true → k10 true)))
theorem k_impl_ValidOrders_1 {o_ : S_Order} {Q : Bool → Prop} (h : w_impl_ValidOrders_1 o_ Q) {H : Hp} {cso_ : List Value} (ro_ : R_Order H o_ cso_) {K : Value → Hp → Prop} (hK : ∀ (r0 : Bool), Q r0 → K (Value.bool r0) H) :
    ACalls Go.Proofs.Try.prog n_impl_ValidOrders_1 #[.agg cso_.toArray] H K := by
  unfold w_impl_ValidOrders_1 at h
  obtain rfl : cso_ = [Value.int .i8 o_.fBuyer, Value.int .i8 o_.fItem, Value.int .i16 o_.fNumber, Value.int .i16 o_.fPrice, Value.int .i16 o_.fDay] := ro_
  refine acalls_go fn_impl_ValidOrders_1 rfl fun hl => ?_
  simp only [c_impl_ValidOrders_1]
  have hL := Loc.nil H
  (try simp only [go_sem, ↓reduceIte, Nat.reduceEqDiff, reduceCtorEq, Nat.reduceAdd, Nat.reduceLeDiff, Nat.reduceSub, Nat.reduceMul, Int.reduceEq, Nat.reduceBEq])
  refine awL_box [Value.int .i8 o_.fBuyer, Value.int .i8 o_.fItem, Value.int .i16 o_.fNumber, Value.int .i16 o_.fPrice, Value.int .i16 o_.fDay] hl hL (by (try simp only [go_sem, ↓reduceIte, Nat.reduceEqDiff, reduceCtorEq, Nat.reduceAdd, Nat.reduceLeDiff, Nat.reduceSub, Nat.reduceMul, Int.reduceEq, Nat.reduceBEq]) <;> rfl) fun b1 H2 hl3 hL4 => ?_
  have hb6 := hL4.box 0 rfl
  (try simp only [go_sem, ↓reduceIte, Nat.reduceEqDiff, reduceCtorEq, Nat.reduceAdd, Nat.reduceLeDiff, Nat.reduceSub, Nat.reduceMul, Int.reduceEq, Nat.reduceBEq, hb6])
  refine aw_call (by (try simp only [go_sem, ↓reduceIte, Nat.reduceEqDiff, reduceCtorEq, Nat.reduceAdd, Nat.reduceLeDiff, Nat.reduceSub, Nat.reduceMul, Int.reduceEq, Nat.reduceBEq, hb6]) <;> rfl) (by (try simp only [go_sem, ↓reduceIte, Nat.reduceEqDiff, reduceCtorEq, Nat.reduceAdd, Nat.reduceLeDiff, Nat.reduceSub, Nat.reduceMul, Int.reduceEq, Nat.reduceBEq, hb6]) <;> rfl) (k_impl_isReturn h rfl fun r7 h => ?_)
  (try simp only [go_sem, ↓reduceIte, Nat.reduceEqDiff, reduceCtorEq, Nat.reduceAdd, Nat.reduceLeDiff, Nat.reduceSub, Nat.reduceMul, Int.reduceEq, Nat.reduceBEq, hb6])
  obtain ⟨k10, hk14, hk10, h15⟩ := h
  refine aw_cut 6 (fun T' H' => ∃ x11, k10 x11 ∧ T' 20 = Value.bool x11 ∧ H' = H2) hl3 rfl ?_ (fun T16 H17 _ ho18 hj19 => ?_)
  · cases hc9 : (!r7) with
    | true =>
      simp only [opsK]
      (try simp only [go_sem, ↓reduceIte, Nat.reduceEqDiff, reduceCtorEq, Nat.reduceAdd, Nat.reduceLeDiff, Nat.reduceSub, Nat.reduceMul, Int.reduceEq, Nat.reduceBEq, hb6, hc9])
      exact ⟨true, h15 hc9, by (try simp only [go_sem, ↓reduceIte, Nat.reduceEqDiff, reduceCtorEq, Nat.reduceAdd, Nat.reduceLeDiff, Nat.reduceSub, Nat.reduceMul, Int.reduceEq, Nat.reduceBEq]), rfl⟩
    | false =>
      simp only [opsK]
      have h := hk10 hc9
      (try simp only [go_sem, ↓reduceIte, Nat.reduceEqDiff, reduceCtorEq, Nat.reduceAdd, Nat.reduceLeDiff, Nat.reduceSub, Nat.reduceMul, Int.reduceEq, Nat.reduceBEq, hc9, hb6])
      refine aw_call (by (try simp only [go_sem, ↓reduceIte, Nat.reduceEqDiff, reduceCtorEq, Nat.reduceAdd, Nat.reduceLeDiff, Nat.reduceSub, Nat.reduceMul, Int.reduceEq, Nat.reduceBEq, hc9, hb6]) <;> rfl) (by (try simp only [go_sem, ↓reduceIte, Nat.reduceEqDiff, reduceCtorEq, Nat.reduceAdd, Nat.reduceLeDiff, Nat.reduceSub, Nat.reduceMul, Int.reduceEq, Nat.reduceBEq, hc9, hb6]) <;> rfl) (k_impl_within h fun r12 h => ?_)
      (try simp only [go_sem, ↓reduceIte, Nat.reduceEqDiff, reduceCtorEq, Nat.reduceAdd, Nat.reduceLeDiff, Nat.reduceSub, Nat.reduceMul, Int.reduceEq, Nat.reduceBEq, hc9, hb6])
      exact ⟨(!r12), h, by (try simp only [go_sem, ↓reduceIte, Nat.reduceEqDiff, reduceCtorEq, Nat.reduceAdd, Nat.reduceLeDiff, Nat.reduceSub, Nat.reduceMul, Int.reduceEq, Nat.reduceBEq, hc9, hb6]), rfl⟩
  obtain ⟨x11, h, t20, hH21⟩ := hj19
  rw [hH21]
  have h := hk14 x11 h
  (try simp only [go_sem, ↓reduceIte, Nat.reduceEqDiff, reduceCtorEq, Nat.reduceAdd, Nat.reduceLeDiff, Nat.reduceSub, Nat.reduceMul, Int.reduceEq, Nat.reduceBEq, t20, hb6])
  exact retQ_r1 (by (try simp only [go_sem, ↓reduceIte, Nat.reduceEqDiff, reduceCtorEq, Nat.reduceAdd, Nat.reduceLeDiff, Nat.reduceSub, Nat.reduceMul, Int.reduceEq, Nat.reduceBEq, t20, hb6]) <;> rfl) H hL4.sub (hK _ h)
def w_impl_ValidOrders (list_ : (List S_Order)) (Q : Bool → Prop) : Prop := list_.length ≤ 1152921504606846976 → (∃ k3 : Bool → Prop, (∀ x4, k3 x4 → Q x4) ∧ ((decide ((list_.length : Int) ≤ 40)) = true → (ContW list_ (fun x5 Q' => w_impl_ValidOrders_1 x5 Q') fun r10 => k3 (!r10))) ∧ ((decide ((list_.length : Int) ≤ 40)) = false → k3 false))
theorem k_impl_ValidOrders {list_ : (List S_Order)} {Q : Bool → Prop} (h : w_impl_ValidOrders list_ Q) {H : Hp} {vlist_ : Value} (rlist_ : SlR R_Order 5 H list_ vlist_) {K : Value → Hp → Prop} (hK : ∀ (r0 : Bool), Q r0 → K (Value.bool r0) H) :
    ACalls Go.Proofs.Try.prog n_impl_ValidOrders #[vlist_] H K := by
  unfold w_impl_ValidOrders at h
  have h := h rlist_.le
  refine acalls_go fn_impl_ValidOrders rfl fun hl => ?_
  simp only [c_impl_ValidOrders]
  have hL := Loc.nil H
  have hn1 := rlist_.len
  (try simp only [go_sem, ↓reduceIte, Nat.reduceEqDiff, reduceCtorEq, Nat.reduceAdd, Nat.reduceLeDiff, Nat.reduceSub, Nat.reduceMul, Int.reduceEq, Nat.reduceBEq, hn1])
  obtain ⟨k3, hk12, hk3, h13⟩ := h
  refine aw_cut 4 (fun T' H' => ∃ x4, k3 x4 ∧ T' 10 = Value.bool x4 ∧ H' = H) hl rfl ?_ (fun T14 H15 _ ho16 hj17 => ?_)
  · cases hc2 : (decide ((list_.length : Int) ≤ 40)) with
    | true =>
      simp only [opsK]
      have h := hk3 hc2
      (try simp only [go_sem, ↓reduceIte, Nat.reduceEqDiff, reduceCtorEq, Nat.reduceAdd, Nat.reduceLeDiff, Nat.reduceSub, Nat.reduceMul, Int.reduceEq, Nat.reduceBEq, hn1, hc2])
      obtain ⟨p8, hp9, h⟩ := h
      refine aw_call (by (try simp only [go_sem, ↓reduceIte, Nat.reduceEqDiff, reduceCtorEq, Nat.reduceAdd, Nat.reduceLeDiff, Nat.reduceSub, Nat.reduceMul, Int.reduceEq, Nat.reduceBEq, hn1, hc2]) <;> rfl) (by (try simp only [go_sem, ↓reduceIte, Nat.reduceEqDiff, reduceCtorEq, Nat.reduceAdd, Nat.reduceLeDiff, Nat.reduceSub, Nat.reduceMul, Int.reduceEq, Nat.reduceBEq, hn1, hc2]) <;> rfl) (containsR fn_slices_ContainsFunc_impl_Order fn_slices_IndexFunc_impl_Order rfl R_Order.ok p8 list_ (g := n_impl_ValidOrders_1) (cp := []) (rlist_.sub R_Order.ok hL.sub) (fun x5 hx cs6 hR7 K' hK' => ?_) ?_)
      · obtain rfl : cs6 = [Value.int .i8 x5.fBuyer, Value.int .i8 x5.fItem, Value.int .i16 x5.fNumber, Value.int .i16 x5.fPrice, Value.int .i16 x5.fDay] := hR7
        exact k_impl_ValidOrders_1 (hp9 x5 hx (fun r => r = p8 x5) rfl) rfl (fun r hr => by rw [hr]; exact hK')
      generalize (list_.any p8) = r10 at h ⊢
      (try simp only [go_sem, ↓reduceIte, Nat.reduceEqDiff, reduceCtorEq, Nat.reduceAdd, Nat.reduceLeDiff, Nat.reduceSub, Nat.reduceMul, Int.reduceEq, Nat.reduceBEq, hn1, hc2])
      exact ⟨(!r10), h, by (try simp only [go_sem, ↓reduceIte, Nat.reduceEqDiff, reduceCtorEq, Nat.reduceAdd, Nat.reduceLeDiff, Nat.reduceSub, Nat.reduceMul, Int.reduceEq, Nat.reduceBEq, hn1, hc2]), rfl⟩
    | false =>
      simp only [opsK]
      (try simp only [go_sem, ↓reduceIte, Nat.reduceEqDiff, reduceCtorEq, Nat.reduceAdd, Nat.reduceLeDiff, Nat.reduceSub, Nat.reduceMul, Int.reduceEq, Nat.reduceBEq, hn1, hc2])
      exact ⟨false, h13 hc2, by (try simp only [go_sem, ↓reduceIte, Nat.reduceEqDiff, reduceCtorEq, Nat.reduceAdd, Nat.reduceLeDiff, Nat.reduceSub, Nat.reduceMul, Int.reduceEq, Nat.reduceBEq]), rfl⟩
  obtain ⟨x4, h, t18, hH19⟩ := hj17
  rw [hH19]
  have h := hk12 x4 h
  (try simp only [go_sem, ↓reduceIte, Nat.reduceEqDiff, reduceCtorEq, Nat.reduceAdd, Nat.reduceLeDiff, Nat.reduceSub, Nat.reduceMul, Int.reduceEq, Nat.reduceBEq, t18, hn1])
  exact retQ_r1 (by (try simp only [go_sem, ↓reduceIte, Nat.reduceEqDiff, reduceCtorEq, Nat.reduceAdd, Nat.reduceLeDiff, Nat.reduceSub, Nat.reduceMul, Int.reduceEq, Nat.reduceBEq, t18, hn1]) <;> rfl) H hL.sub (hK _ h)
def w_impl_ValidReturns_1 (r_ : S_Return) (Q : Bool → Prop) : Prop := (w_impl_isReturn r_ fun r7 => Q (!r7))
theorem k_impl_ValidReturns_1 {r_ : S_Return} {Q : Bool → Prop} (h : w_impl_ValidReturns_1 r_ Q) {H : Hp} {csr_ : List Value} (rr_ : R_Return H r_ csr_) {K : Value → Hp → Prop} (hK : ∀ (r0 : Bool), Q r0 → K (Value.bool r0) H) :
    ACalls Go.Proofs.Try.prog n_impl_ValidReturns_1 #[.agg csr_.toArray] H K := by
  unfold w_impl_ValidReturns_1 at h
  obtain rfl : csr_ = [Value.int .i8 r_.fBuyer, Value.int .i8 r_.fItem, Value.int .i16 r_.fNumber, Value.int .i16 r_.fDay] := rr_
  refine acalls_go fn_impl_ValidReturns_1 rfl fun hl => ?_
  simp only [c_impl_ValidReturns_1]
  have hL := Loc.nil H
  (try simp only [go_sem, ↓reduceIte, Nat.reduceEqDiff, reduceCtorEq, Nat.reduceAdd, Nat.reduceLeDiff, Nat.reduceSub, Nat.reduceMul, Int.reduceEq, Nat.reduceBEq])
  refine awL_box [Value.int .i8 r_.fBuyer, Value.int .i8 r_.fItem, Value.int .i16 r_.fNumber, Value.int .i16 r_.fDay] hl hL (by (try simp only [go_sem, ↓reduceIte, Nat.reduceEqDiff, reduceCtorEq, Nat.reduceAdd, Nat.reduceLeDiff, Nat.reduceSub, Nat.reduceMul, Int.reduceEq, Nat.reduceBEq]) <;> rfl) fun b1 H2 hl3 hL4 => ?_
  have hb6 := hL4.box 0 rfl
  (try simp only [go_sem, ↓reduceIte, Nat.reduceEqDiff, reduceCtorEq, Nat.reduceAdd, Nat.reduceLeDiff, Nat.reduceSub, Nat.reduceMul, Int.reduceEq, Nat.reduceBEq, hb6])
  refine aw_call (by (try simp only [go_sem, ↓reduceIte, Nat.reduceEqDiff, reduceCtorEq, Nat.reduceAdd, Nat.reduceLeDiff, Nat.reduceSub, Nat.reduceMul, Int.reduceEq, Nat.reduceBEq, hb6]) <;> rfl) (by (try simp only [go_sem, ↓reduceIte, Nat.reduceEqDiff, reduceCtorEq, Nat.reduceAdd, Nat.reduceLeDiff, Nat.reduceSub, Nat.reduceMul, Int.reduceEq, Nat.reduceBEq, hb6]) <;> rfl) (k_impl_isReturn h rfl fun r7 h => ?_)
  (try simp only [go_sem, ↓reduceIte, Nat.reduceEqDiff, reduceCtorEq, Nat.reduceAdd, Nat.reduceLeDiff, Nat.reduceSub, Nat.reduceMul, Int.reduceEq, Nat.reduceBEq, hb6])
  exact retQ_r1 (by (try simp only [go_sem, ↓reduceIte, Nat.reduceEqDiff, reduceCtorEq, Nat.reduceAdd, Nat.reduceLeDiff, Nat.reduceSub, Nat.reduceMul, Int.reduceEq, Nat.reduceBEq, hb6]) <;> rfl) H hL4.sub (hK _ h)
def w_impl_ValidReturns (list_ : (List S_Return)) (Q : Bool → Prop) : Prop := list_.length ≤ 1152921504606846976 → (∃ k3 : Bool → Prop, (∀ x4, k3 x4 → Q x4) ∧ ((decide ((list_.length : Int) ≤ 40)) = true → (ContW list_ (fun x5 Q' => w_impl_ValidReturns_1 x5 Q') fun r10 => k3 (!r10))) ∧ ((decide ((list_.length : Int) ≤ 40)) = false → k3 false))
theorem k_impl_ValidReturns {list_ : (List S_Return)} {Q : Bool → Prop} (h : w_impl_ValidReturns list_ Q) {H : Hp} {vlist_ : Value} (rlist_ : SlR R_Return 4 H list_ vlist_) {K : Value → Hp → Prop} (hK : ∀ (r0 : Bool), Q r0 → K (Value.bool r0) H) :
    ACalls Go.Proofs.Try.prog n_impl_ValidReturns #[vlist_] H K := by
  unfold w_impl_ValidReturns at h
  have h := h rlist_.le
  refine acalls_go fn_impl_ValidReturns rfl fun hl => ?_
  simp only [c_impl_ValidReturns]
  have hL := Loc.nil H
  have hn1 := rlist_.len
  (try simp only [go_sem, ↓reduceIte, Nat.reduceEqDiff, reduceCtorEq, Nat.reduceAdd, Nat.reduceLeDiff, Nat.reduceSub, Nat.reduceMul, Int.reduceEq, Nat.reduceBEq, hn1])
  obtain ⟨k3, hk12, hk3, h13⟩ := h
  refine aw_cut 4 (fun T' H' => ∃ x4, k3 x4 ∧ T' 10 = Value.bool x4 ∧ H' = H) hl rfl ?_ (fun T14 H15 _ ho16 hj17 => ?_)
  · cases hc2 : (decide ((list_.length : Int) ≤ 40)) with
    | true =>
      simp only [opsK]
      have h := hk3 hc2
      (try simp only [go_sem, ↓reduceIte, Nat.reduceEqDiff, reduceCtorEq, Nat.reduceAdd, Nat.reduceLeDiff, Nat.reduceSub, Nat.reduceMul, Int.reduceEq, Nat.reduceBEq, hn1, hc2])
      obtain ⟨p8, hp9, h⟩ := h
      refine aw_call (by (try simp only [go_sem, ↓reduceIte, Nat.reduceEqDiff, reduceCtorEq, Nat.reduceAdd, Nat.reduceLeDiff, Nat.reduceSub, Nat.reduceMul, Int.reduceEq, Nat.reduceBEq, hn1, hc2]) <;> rfl) (by (try simp only [go_sem, ↓reduceIte, Nat.reduceEqDiff, reduceCtorEq, Nat.reduceAdd, Nat.reduceLeDiff, Nat.reduceSub, Nat.reduceMul, Int.reduceEq, Nat.reduceBEq, hn1, hc2]) <;> rfl) (containsR fn_slices_ContainsFunc_impl_Return fn_slices_IndexFunc_impl_Return rfl R_Return.ok p8 list_ (g := n_impl_ValidReturns_1) (cp := []) (rlist_.sub R_Return.ok hL.sub) (fun x5 hx cs6 hR7 K' hK' => ?_) ?_)
      · obtain rfl : cs6 = [Value.int .i8 x5.fBuyer, Value.int .i8 x5.fItem, Value.int .i16 x5.fNumber, Value.int .i16 x5.fDay] := hR7
        exact k_impl_ValidReturns_1 (hp9 x5 hx (fun r => r = p8 x5) rfl) rfl (fun r hr => by rw [hr]; exact hK')
      generalize (list_.any p8) = r10 at h ⊢
      (try simp only [go_sem, ↓reduceIte, Nat.reduceEqDiff, reduceCtorEq, Nat.reduceAdd, Nat.reduceLeDiff, Nat.reduceSub, Nat.reduceMul, Int.reduceEq, Nat.reduceBEq, hn1, hc2])
      exact ⟨(!r10), h, by (try simp only [go_sem, ↓reduceIte, Nat.reduceEqDiff, reduceCtorEq, Nat.reduceAdd, Nat.reduceLeDiff, Nat.reduceSub, Nat.reduceMul, Int.reduceEq, Nat.reduceBEq, hn1, hc2]), rfl⟩
    | false =>
      simp only [opsK]
      (try simp only [go_sem, ↓reduceIte, Nat.reduceEqDiff, reduceCtorEq, Nat.reduceAdd, Nat.reduceLeDiff, Nat.reduceSub, Nat.reduceMul, Int.reduceEq, Nat.reduceBEq, hn1, hc2])
      exact ⟨false, h13 hc2, by (try simp only [go_sem, ↓reduceIte, Nat.reduceEqDiff, reduceCtorEq, Nat.reduceAdd, Nat.reduceLeDiff, Nat.reduceSub, Nat.reduceMul, Int.reduceEq, Nat.reduceBEq]), rfl⟩
  obtain ⟨x4, h, t18, hH19⟩ := hj17
  rw [hH19]
  have h := hk12 x4 h
  (try simp only [go_sem, ↓reduceIte, Nat.reduceEqDiff, reduceCtorEq, Nat.reduceAdd, Nat.reduceLeDiff, Nat.reduceSub, Nat.reduceMul, Int.reduceEq, Nat.reduceBEq, t18, hn1])
  exact retQ_r1 (by (try simp only [go_sem, ↓reduceIte, Nat.reduceEqDiff, reduceCtorEq, Nat.reduceAdd, Nat.reduceLeDiff, Nat.reduceSub, Nat.reduceMul, Int.reduceEq, Nat.reduceBEq, t18, hn1]) <;> rfl) H hL.sub (hK _ h)
def w_impl_unless (is_ : Bool) (code_ : Int) (Q : Int → Prop) : Prop := ((is_ = true → Q 0) ∧ (is_ = false → Q code_))
theorem k_impl_unless {is_ : Bool} {code_ : Int} {Q : Int → Prop} (h : w_impl_unless is_ code_ Q) {H : Hp} {K : Value → Hp → Prop} (hK : ∀ (r0 : Int), Q r0 → K (Value.int .i64 r0) H) :
    ACalls Go.Proofs.Try.prog n_impl_unless #[Value.bool is_, Value.int .i64 code_] H K := by
  unfold w_impl_unless at h
  refine acalls_go fn_impl_unless rfl fun hl => ?_
  simp only [c_impl_unless]
  have hL := Loc.nil H
  (try simp only [go_sem, ↓reduceIte, Nat.reduceEqDiff, reduceCtorEq, Nat.reduceAdd, Nat.reduceLeDiff, Nat.reduceSub, Nat.reduceMul, Int.reduceEq, Nat.reduceBEq])
  cases hc1 : is_ with
  | true =>
    have h := h.1 hc1
    (try simp only [go_sem, ↓reduceIte, Nat.reduceEqDiff, reduceCtorEq, Nat.reduceAdd, Nat.reduceLeDiff, Nat.reduceSub, Nat.reduceMul, Int.reduceEq, Nat.reduceBEq, hc1])
    exact retQ_r1 (by (try simp only [go_sem, ↓reduceIte, Nat.reduceEqDiff, reduceCtorEq, Nat.reduceAdd, Nat.reduceLeDiff, Nat.reduceSub, Nat.reduceMul, Int.reduceEq, Nat.reduceBEq, hc1]) <;> rfl) H hL.sub (hK _ h)
  | false =>
    have h := h.2 hc1
    (try simp only [go_sem, ↓reduceIte, Nat.reduceEqDiff, reduceCtorEq, Nat.reduceAdd, Nat.reduceLeDiff, Nat.reduceSub, Nat.reduceMul, Int.reduceEq, Nat.reduceBEq, hc1])
    exact retQ_r1 (by (try simp only [go_sem, ↓reduceIte, Nat.reduceEqDiff, reduceCtorEq, Nat.reduceAdd, Nat.reduceLeDiff, Nat.reduceSub, Nat.reduceMul, Int.reduceEq, Nat.reduceBEq, hc1]) <;> rfl) H hL.sub (hK _ h)
def w_impl_daysCode (orders_ : (List S_Order)) (returns_ : (List S_Return)) (days_ : Int) (Q : Int → Prop) : Prop := orders_.length ≤ 1152921504606846976 → returns_.length ≤ 1152921504606846976 → (w_impl_ValidOrders orders_ fun r1 => (∃ k4 : Bool → Prop, (∀ x5, k4 x5 → ((x5 = true → Q 1) ∧ (x5 = false → (w_impl_within days_ 0 1000 fun r18 => (w_impl_unless r18 2 fun r20 => Q r20))))) ∧ ((!r1) = false → (w_impl_ValidReturns returns_ fun r6 => k4 (!r6))) ∧ ((!r1) = true → k4 true)))
theorem k_impl_daysCode {orders_ : (List S_Order)} {returns_ : (List S_Return)} {days_ : Int} {Q : Int → Prop} (h : w_impl_daysCode orders_ returns_ days_ Q) {H : Hp} {vorders_ : Value} (rorders_ : SlR R_Order 5 H orders_ vorders_) {vreturns_ : Value} (rreturns_ : SlR R_Return 4 H returns_ vreturns_) {K : Value → Hp → Prop} (hK : ∀ (r0 : Int), Q r0 → K (Value.int .i64 r0) H) :
    ACalls Go.Proofs.Try.prog n_impl_daysCode #[vorders_, vreturns_, Value.int .i64 days_] H K := by
  unfold w_impl_daysCode at h
  have h := h rorders_.le
  have h := h rreturns_.le
  refine acalls_go fn_impl_daysCode rfl fun hl => ?_
  simp only [c_impl_daysCode]
  have hL := Loc.nil H
  (try simp only [go_sem, ↓reduceIte, Nat.reduceEqDiff, reduceCtorEq, Nat.reduceAdd, Nat.reduceLeDiff, Nat.reduceSub, Nat.reduceMul, Int.reduceEq, Nat.reduceBEq])
  refine aw_call (by (try simp only [go_sem, ↓reduceIte, Nat.reduceEqDiff, reduceCtorEq, Nat.reduceAdd, Nat.reduceLeDiff, Nat.reduceSub, Nat.reduceMul, Int.reduceEq, Nat.reduceBEq]) <;> rfl) (by (try simp only [go_sem, ↓reduceIte, Nat.reduceEqDiff, reduceCtorEq, Nat.reduceAdd, Nat.reduceLeDiff, Nat.reduceSub, Nat.reduceMul, Int.reduceEq, Nat.reduceBEq]) <;> rfl) (k_impl_ValidOrders h (rorders_.sub R_Order.ok hL.sub) fun r1 h => ?_)
  (try simp only [go_sem, ↓reduceIte, Nat.reduceEqDiff, reduceCtorEq, Nat.reduceAdd, Nat.reduceLeDiff, Nat.reduceSub, Nat.reduceMul, Int.reduceEq, Nat.reduceBEq])
  obtain ⟨k4, hk8, hk4, h9⟩ := h
  refine aw_cut 4 (fun T' H' => ∃ x5, k4 x5 ∧ T' 14 = Value.bool x5 ∧ H' = H) hl rfl ?_ (fun T10 H11 _ ho12 hj13 => ?_)
  · cases hc3 : (!r1) with
    | true =>
      simp only [opsK]
      (try simp only [go_sem, ↓reduceIte, Nat.reduceEqDiff, reduceCtorEq, Nat.reduceAdd, Nat.reduceLeDiff, Nat.reduceSub, Nat.reduceMul, Int.reduceEq, Nat.reduceBEq, hc3])
      exact ⟨true, h9 hc3, by (try simp only [go_sem, ↓reduceIte, Nat.reduceEqDiff, reduceCtorEq, Nat.reduceAdd, Nat.reduceLeDiff, Nat.reduceSub, Nat.reduceMul, Int.reduceEq, Nat.reduceBEq]), rfl⟩
    | false =>
      simp only [opsK]
      have h := hk4 hc3
      (try simp only [go_sem, ↓reduceIte, Nat.reduceEqDiff, reduceCtorEq, Nat.reduceAdd, Nat.reduceLeDiff, Nat.reduceSub, Nat.reduceMul, Int.reduceEq, Nat.reduceBEq, hc3])
      refine aw_call (by (try simp only [go_sem, ↓reduceIte, Nat.reduceEqDiff, reduceCtorEq, Nat.reduceAdd, Nat.reduceLeDiff, Nat.reduceSub, Nat.reduceMul, Int.reduceEq, Nat.reduceBEq, hc3]) <;> rfl) (by (try simp only [go_sem, ↓reduceIte, Nat.reduceEqDiff, reduceCtorEq, Nat.reduceAdd, Nat.reduceLeDiff, Nat.reduceSub, Nat.reduceMul, Int.reduceEq, Nat.reduceBEq, hc3]) <;> rfl) (k_impl_ValidReturns h (rreturns_.sub R_Return.ok hL.sub) fun r6 h => ?_)
      (try simp only [go_sem, ↓reduceIte, Nat.reduceEqDiff, reduceCtorEq, Nat.reduceAdd, Nat.reduceLeDiff, Nat.reduceSub, Nat.reduceMul, Int.reduceEq, Nat.reduceBEq, hc3])
      exact ⟨(!r6), h, by (try simp only [go_sem, ↓reduceIte, Nat.reduceEqDiff, reduceCtorEq, Nat.reduceAdd, Nat.reduceLeDiff, Nat.reduceSub, Nat.reduceMul, Int.reduceEq, Nat.reduceBEq, hc3]), rfl⟩
  obtain ⟨x5, h, t14, hH15⟩ := hj13
  rw [hH15]
  have h := hk8 x5 h
  have t16 : T10 2 = Value.int .i64 days_ := by rw [ho12.get rfl]; (try simp only [go_sem, ↓reduceIte, Nat.reduceEqDiff, reduceCtorEq, Nat.reduceAdd, Nat.reduceLeDiff, Nat.reduceSub, Nat.reduceMul, Int.reduceEq, Nat.reduceBEq])
  (try simp only [go_sem, ↓reduceIte, Nat.reduceEqDiff, reduceCtorEq, Nat.reduceAdd, Nat.reduceLeDiff, Nat.reduceSub, Nat.reduceMul, Int.reduceEq, Nat.reduceBEq, t16, t14])
  cases hc17 : x5 with
  | true =>
    have h := h.1 hc17
    (try simp only [go_sem, ↓reduceIte, Nat.reduceEqDiff, reduceCtorEq, Nat.reduceAdd, Nat.reduceLeDiff, Nat.reduceSub, Nat.reduceMul, Int.reduceEq, Nat.reduceBEq, t16, t14, hc17])
    exact retQ_r1 (by (try simp only [go_sem, ↓reduceIte, Nat.reduceEqDiff, reduceCtorEq, Nat.reduceAdd, Nat.reduceLeDiff, Nat.reduceSub, Nat.reduceMul, Int.reduceEq, Nat.reduceBEq, t16, t14, hc17]) <;> rfl) H hL.sub (hK _ h)
  | false =>
    have h := h.2 hc17
    (try simp only [go_sem, ↓reduceIte, Nat.reduceEqDiff, reduceCtorEq, Nat.reduceAdd, Nat.reduceLeDiff, Nat.reduceSub, Nat.reduceMul, Int.reduceEq, Nat.reduceBEq, t16, t14, hc17])
    refine aw_call (by (try simp only [go_sem, ↓reduceIte, Nat.reduceEqDiff, reduceCtorEq, Nat.reduceAdd, Nat.reduceLeDiff, Nat.reduceSub, Nat.reduceMul, Int.reduceEq, Nat.reduceBEq, t16, t14, hc17]) <;> rfl) (by (try simp only [go_sem, ↓reduceIte, Nat.reduceEqDiff, reduceCtorEq, Nat.reduceAdd, Nat.reduceLeDiff, Nat.reduceSub, Nat.reduceMul, Int.reduceEq, Nat.reduceBEq, t16, t14, hc17]) <;> rfl) (k_impl_within h fun r18 h => ?_)
    (try simp only [go_sem, ↓reduceIte, Nat.reduceEqDiff, reduceCtorEq, Nat.reduceAdd, Nat.reduceLeDiff, Nat.reduceSub, Nat.reduceMul, Int.reduceEq, Nat.reduceBEq, t16, t14, hc17])
    refine aw_call (by (try simp only [go_sem, ↓reduceIte, Nat.reduceEqDiff, reduceCtorEq, Nat.reduceAdd, Nat.reduceLeDiff, Nat.reduceSub, Nat.reduceMul, Int.reduceEq, Nat.reduceBEq, t16, t14, hc17]) <;> rfl) (by (try simp only [go_sem, ↓reduceIte, Nat.reduceEqDiff, reduceCtorEq, Nat.reduceAdd, Nat.reduceLeDiff, Nat.reduceSub, Nat.reduceMul, Int.reduceEq, Nat.reduceBEq, t16, t14, hc17]) <;> rfl) (k_impl_unless h fun r20 h => ?_)
    (try simp only [go_sem, ↓reduceIte, Nat.reduceEqDiff, reduceCtorEq, Nat.reduceAdd, Nat.reduceLeDiff, Nat.reduceSub, Nat.reduceMul, Int.reduceEq, Nat.reduceBEq, t16, t14, hc17])
    exact retQ_r1 (by (try simp only [go_sem, ↓reduceIte, Nat.reduceEqDiff, reduceCtorEq, Nat.reduceAdd, Nat.reduceLeDiff, Nat.reduceSub, Nat.reduceMul, Int.reduceEq, Nat.reduceBEq, t16, t14, hc17]) <;> rfl) H hL.sub (hK _ h)
def w_impl_indices (n_ : Int) (Q : (List Int) → Prop) : Prop := (0 ≤ n_ ∧ ((n_).toNat ≤ 9223372036854775806 ∧ (∃ I83 : Nat → (List Int) → Prop, I83 0 ([] : List Int) ∧ (∀ (i92 : Nat) (xs78 : List Int), i92 < (n_).toNat → I83 i92 xs78 → ((xs78.length + 1) * 8 ≤ 140737488355328 ∧ I83 (i92 + 1) (xs78 ++ [(i92 : Int)]))) ∧ (∀ (xs78 : List Int), I83 ((n_).toNat) xs78 → Q xs78))))
theorem k_impl_indices {n_ : Int} {Q : (List Int) → Prop} (h : w_impl_indices n_ Q) {H : Hp} {K : Value → Hp → Prop} (hK : ∀ (r0 : (List Int)), Q r0 → ∀ (H' : Hp) (kb0 : Option Nat) (v0 : Value) (rows0 : List (List Value)), Live H' → Loc H H' [.own kb0 2 1 v0 rows0] → Rows (RI .i64) H r0 rows0 → K (v0) H') :
    ACalls Go.Proofs.Try.prog n_impl_indices #[Value.int .i64 n_] H K := by
  unfold w_impl_indices at h
  refine acalls_go fn_impl_indices rfl fun hl => ?_
  simp only [c_impl_indices]
  have hL := Loc.nil H
  (try simp only [go_sem, ↓reduceIte, Nat.reduceEqDiff, reduceCtorEq, Nat.reduceAdd, Nat.reduceLeDiff, Nat.reduceSub, Nat.reduceMul, Int.reduceEq, Nat.reduceBEq])
  refine awL_bsl0 1 hl hL fun b4 v5 H1 hl2 hL3 => ?_
  have hr6 : Rows (RI .i64) H ([] : List Int) [] := Rows.nil (RI .i64) H
  (try simp only [go_sem, ↓reduceIte, Nat.reduceEqDiff, reduceCtorEq, Nat.reduceAdd, Nat.reduceLeDiff, Nat.reduceSub, Nat.reduceMul, Int.reduceEq, Nat.reduceBEq])
  obtain ⟨hc95, h⟩ := h
  obtain ⟨hN96, h⟩ := h
  obtain ⟨I83, h0, hSI83, hEI83⟩ := h
  refine aw_rangeO hl2 ((n_).toNat) hN96 (fun i92 T' H' => ∃ xs78 kb79 v80 rows81, I83 i92 xs78 ∧ T' 3 = v80 ∧ Loc H H' [.own kb79 2 1 v80 rows81] ∧ Rows (RI .i64) H xs78 rows81) H1 (Hp.sub.refl _) (by (try simp only [go_sem, ↓reduceIte, Nat.reduceEqDiff, reduceCtorEq, Nat.reduceAdd, Nat.reduceLeDiff, Nat.reduceSub, Nat.reduceMul, Int.reduceEq, Nat.reduceBEq]) <;> rfl) ⟨([] : List Int), (some b4), v5, [], h0, (by (try simp only [go_sem, ↓reduceIte, Nat.reduceEqDiff, reduceCtorEq, Nat.reduceAdd, Nat.reduceLeDiff, Nat.reduceSub, Nat.reduceMul, Int.reduceEq, Nat.reduceBEq]) <;> rfl), hL3, hr6⟩ (fun T' ho' => by rw [ev_tmp, ho'.get rfl]; (try simp only [go_sem, ↓reduceIte, Nat.reduceEqDiff, reduceCtorEq, Nat.reduceAdd, Nat.reduceLeDiff, Nat.reduceSub, Nat.reduceMul, Int.reduceEq, Nat.reduceBEq]); rw [Int.toNat_of_nonneg hc95]) rfl (by decide) (by decide) ?_ ?_
  · rintro i92 T86 H85 hi94 hl87 ho88 ht93 ⟨xs78, kb79, v80, rows81, hI90, t91, hL89, hr82⟩
    have t97 : T86 6 = Value.int .i64 n_ := by rw [ho88.get rfl]; (try simp only [go_sem, ↓reduceIte, Nat.reduceEqDiff, reduceCtorEq, Nat.reduceAdd, Nat.reduceLeDiff, Nat.reduceSub, Nat.reduceMul, Int.reduceEq, Nat.reduceBEq])
    have h := hSI83 i92 xs78 hi94 hI90
    (try simp only [go_sem, ↓reduceIte, Nat.reduceEqDiff, reduceCtorEq, Nat.reduceAdd, Nat.reduceLeDiff, Nat.reduceSub, Nat.reduceMul, Int.reduceEq, Nat.reduceBEq, t91, t97, ht93])
    refine awL_bsl1 [Value.int .i64 (i92 : Int)] hl87 hL89 (by (try simp only [go_sem, ↓reduceIte, Nat.reduceEqDiff, reduceCtorEq, Nat.reduceAdd, Nat.reduceLeDiff, Nat.reduceSub, Nat.reduceMul, Int.reduceEq, Nat.reduceBEq, t91, t97, ht93]) <;> rfl) rfl rfl fun b101 v102 H98 hl99 hL100 => ?_
    have hr103 : Rows (RI .i64) H [(i92 : Int)] [[Value.int .i64 (i92 : Int)]] := (Rows.nil (RI .i64) H).snoc (show (RI .i64) H (i92 : Int) [Value.int .i64 (i92 : Int)] from rfl)
    obtain ⟨hc105, h⟩ := h
    (try simp only [go_sem, ↓reduceIte, Nat.reduceEqDiff, reduceCtorEq, Nat.reduceAdd, Nat.reduceLeDiff, Nat.reduceSub, Nat.reduceMul, Int.reduceEq, Nat.reduceBEq, t91, t97, ht93])
    refine awL_app1 1 0 hl99 hL100 rfl rfl (by (try simp only [go_sem, ↓reduceIte, Nat.reduceEqDiff, reduceCtorEq, Nat.reduceAdd, Nat.reduceLeDiff, Nat.reduceSub, Nat.reduceMul, Int.reduceEq, Nat.reduceBEq, t91, t97, ht93]) <;> rfl) (by (try simp only [go_sem, ↓reduceIte, Nat.reduceEqDiff, reduceCtorEq, Nat.reduceAdd, Nat.reduceLeDiff, Nat.reduceSub, Nat.reduceMul, Int.reduceEq, Nat.reduceBEq, t91, t97, ht93]) <;> rfl) rfl (by omega) (by rw [hr82.1]; exact hc105) fun kb109 v110 H106 hl107 hL108 => ?_
    have hr111 := hr82.snoc (show (RI .i64) H (i92 : Int) [Value.int .i64 (i92 : Int)] from rfl)
    (try simp only [go_sem, ↓reduceIte, Nat.reduceEqDiff, reduceCtorEq, Nat.reduceAdd, Nat.reduceLeDiff, Nat.reduceSub, Nat.reduceMul, Int.reduceEq, Nat.reduceBEq, t91, t97, ht93])
    exact ⟨H106, Hp.sub.refl _, (xs78 ++ [(i92 : Int)]), kb109, v110, (rows81 ++ [[Value.int .i64 (i92 : Int)]]), h, (by (try simp only [go_sem, ↓reduceIte, Nat.reduceEqDiff, reduceCtorEq, Nat.reduceAdd, Nat.reduceLeDiff, Nat.reduceSub, Nat.reduceMul, Int.reduceEq, Nat.reduceBEq, t91, t97, ht93]) <;> rfl), (hL108.sel [1] (by decide)), hr111⟩
  · rintro T86 H85 hl87 ho88 ht93 ⟨xs78, kb79, v80, rows81, hI90, t91, hL89, hr82⟩
    have t112 : T86 6 = Value.int .i64 n_ := by rw [ho88.get rfl]; (try simp only [go_sem, ↓reduceIte, Nat.reduceEqDiff, reduceCtorEq, Nat.reduceAdd, Nat.reduceLeDiff, Nat.reduceSub, Nat.reduceMul, Int.reduceEq, Nat.reduceBEq])
    have h := hEI83 xs78 hI90
    (try simp only [go_sem, ↓reduceIte, Nat.reduceEqDiff, reduceCtorEq, Nat.reduceAdd, Nat.reduceLeDiff, Nat.reduceSub, Nat.reduceMul, Int.reduceEq, Nat.reduceBEq, t91, t112, ht93])
    exact retQ_r1 (by (try simp only [go_sem, ↓reduceIte, Nat.reduceEqDiff, reduceCtorEq, Nat.reduceAdd, Nat.reduceLeDiff, Nat.reduceSub, Nat.reduceMul, Int.reduceEq, Nat.reduceBEq, t91, t112, ht93]) <;> rfl) H85 (Hp.sub.refl _) (hK _ h H85 kb79 v80 rows81 hl87 (hL89.sel [0] (by decide)) hr82)
def w_cmp_isNaN_int16 (x_ : Int) (Q : Bool → Prop) : Prop := Q (!decide (x_ = x_))
theorem k_cmp_isNaN_int16 {x_ : Int} {Q : Bool → Prop} (h : w_cmp_isNaN_int16 x_ Q) {H : Hp} {K : Value → Hp → Prop} (hK : ∀ (r0 : Bool), Q r0 → K (Value.bool r0) H) :
    ACalls Go.Proofs.Try.prog n_cmp_isNaN_int16 #[Value.int .i16 x_] H K := by
  unfold w_cmp_isNaN_int16 at h
  refine acalls_go fn_cmp_isNaN_int16 rfl fun hl => ?_
  simp only [c_cmp_isNaN_int16]
  have hL := Loc.nil H
  (try simp only [go_sem, ↓reduceIte, Nat.reduceEqDiff, reduceCtorEq, Nat.reduceAdd, Nat.reduceLeDiff, Nat.reduceSub, Nat.reduceMul, Int.reduceEq, Nat.reduceBEq])
  exact retQ_r1 (by (try simp only [go_sem, ↓reduceIte, Nat.reduceEqDiff, reduceCtorEq, Nat.reduceAdd, Nat.reduceLeDiff, Nat.reduceSub, Nat.reduceMul, Int.reduceEq, Nat.reduceBEq]) <;> rfl) H hL.sub (hK _ h)
def w_cmp_Compare_int16 (x_ : Int) (y_ : Int) (Q : Int → Prop) : Prop := (w_cmp_isNaN_int16 x_ fun r1 => (w_cmp_isNaN_int16 y_ fun r3 => ((r1 = true → ((r3 = true → Q 0) ∧ (r3 = false → Q (-1)))) ∧ (r1 = false → ((r3 = true → Q 1) ∧ (r3 = false → (((decide (x_ < y_)) = true → Q (-1)) ∧ ((decide (x_ < y_)) = false → (((decide (x_ > y_)) = true → Q 1) ∧ ((decide (x_ > y_)) = false → Q 0))))))))))
theorem k_cmp_Compare_int16 {x_ : Int} {y_ : Int} {Q : Int → Prop} (h : w_cmp_Compare_int16 x_ y_ Q) {H : Hp} {K : Value → Hp → Prop} (hK : ∀ (r0 : Int), Q r0 → K (Value.int .i64 r0) H) :
    ACalls Go.Proofs.Try.prog n_cmp_Compare_int16 #[Value.int .i16 x_, Value.int .i16 y_] H K := by
  unfold w_cmp_Compare_int16 at h
  refine acalls_go fn_cmp_Compare_int16 rfl fun hl => ?_
  simp only [c_cmp_Compare_int16]
  have hL := Loc.nil H
  (try simp only [go_sem, ↓reduceIte, Nat.reduceEqDiff, reduceCtorEq, Nat.reduceAdd, Nat.reduceLeDiff, Nat.reduceSub, Nat.reduceMul, Int.reduceEq, Nat.reduceBEq])
  refine aw_call (by (try simp only [go_sem, ↓reduceIte, Nat.reduceEqDiff, reduceCtorEq, Nat.reduceAdd, Nat.reduceLeDiff, Nat.reduceSub, Nat.reduceMul, Int.reduceEq, Nat.reduceBEq]) <;> rfl) (by (try simp only [go_sem, ↓reduceIte, Nat.reduceEqDiff, reduceCtorEq, Nat.reduceAdd, Nat.reduceLeDiff, Nat.reduceSub, Nat.reduceMul, Int.reduceEq, Nat.reduceBEq]) <;> rfl) (k_cmp_isNaN_int16 h fun r1 h => ?_)
  (try simp only [go_sem, ↓reduceIte, Nat.reduceEqDiff, reduceCtorEq, Nat.reduceAdd, Nat.reduceLeDiff, Nat.reduceSub, Nat.reduceMul, Int.reduceEq, Nat.reduceBEq])
  refine aw_call (by (try simp only [go_sem, ↓reduceIte, Nat.reduceEqDiff, reduceCtorEq, Nat.reduceAdd, Nat.reduceLeDiff, Nat.reduceSub, Nat.reduceMul, Int.reduceEq, Nat.reduceBEq]) <;> rfl) (by (try simp only [go_sem, ↓reduceIte, Nat.reduceEqDiff, reduceCtorEq, Nat.reduceAdd, Nat.reduceLeDiff, Nat.reduceSub, Nat.reduceMul, Int.reduceEq, Nat.reduceBEq]) <;> rfl) (k_cmp_isNaN_int16 h fun r3 h => ?_)
  (try simp only [go_sem, ↓reduceIte, Nat.reduceEqDiff, reduceCtorEq, Nat.reduceAdd, Nat.reduceLeDiff, Nat.reduceSub, Nat.reduceMul, Int.reduceEq, Nat.reduceBEq])
  cases hc5 : r1 with
  | true =>
    have h := h.1 hc5
    (try simp only [go_sem, ↓reduceIte, Nat.reduceEqDiff, reduceCtorEq, Nat.reduceAdd, Nat.reduceLeDiff, Nat.reduceSub, Nat.reduceMul, Int.reduceEq, Nat.reduceBEq, hc5])
    cases hc6 : r3 with
    | true =>
      have h := h.1 hc6
      (try simp only [go_sem, ↓reduceIte, Nat.reduceEqDiff, reduceCtorEq, Nat.reduceAdd, Nat.reduceLeDiff, Nat.reduceSub, Nat.reduceMul, Int.reduceEq, Nat.reduceBEq, hc5, hc6])
      exact retQ_r1 (by (try simp only [go_sem, ↓reduceIte, Nat.reduceEqDiff, reduceCtorEq, Nat.reduceAdd, Nat.reduceLeDiff, Nat.reduceSub, Nat.reduceMul, Int.reduceEq, Nat.reduceBEq, hc5, hc6]) <;> rfl) H hL.sub (hK _ h)
    | false =>
      have h := h.2 hc6
      (try simp only [go_sem, ↓reduceIte, Nat.reduceEqDiff, reduceCtorEq, Nat.reduceAdd, Nat.reduceLeDiff, Nat.reduceSub, Nat.reduceMul, Int.reduceEq, Nat.reduceBEq, hc5, hc6])
      exact retQ_r1 (by (try simp only [go_sem, ↓reduceIte, Nat.reduceEqDiff, reduceCtorEq, Nat.reduceAdd, Nat.reduceLeDiff, Nat.reduceSub, Nat.reduceMul, Int.reduceEq, Nat.reduceBEq, hc5, hc6]) <;> rfl) H hL.sub (hK _ h)
  | false =>
    have h := h.2 hc5
    (try simp only [go_sem, ↓reduceIte, Nat.reduceEqDiff, reduceCtorEq, Nat.reduceAdd, Nat.reduceLeDiff, Nat.reduceSub, Nat.reduceMul, Int.reduceEq, Nat.reduceBEq, hc5])
    cases hc7 : r3 with
    | true =>
      have h := h.1 hc7
      (try simp only [go_sem, ↓reduceIte, Nat.reduceEqDiff, reduceCtorEq, Nat.reduceAdd, Nat.reduceLeDiff, Nat.reduceSub, Nat.reduceMul, Int.reduceEq, Nat.reduceBEq, hc5, hc7])
      exact retQ_r1 (by (try simp only [go_sem, ↓reduceIte, Nat.reduceEqDiff, reduceCtorEq, Nat.reduceAdd, Nat.reduceLeDiff, Nat.reduceSub, Nat.reduceMul, Int.reduceEq, Nat.reduceBEq, hc5, hc7]) <;> rfl) H hL.sub (hK _ h)
    | false =>
      have h := h.2 hc7
      (try simp only [go_sem, ↓reduceIte, Nat.reduceEqDiff, reduceCtorEq, Nat.reduceAdd, Nat.reduceLeDiff, Nat.reduceSub, Nat.reduceMul, Int.reduceEq, Nat.reduceBEq, hc5, hc7])
      cases hc8 : (decide (x_ < y_)) with
      | true =>
        have h := h.1 hc8
        (try simp only [go_sem, ↓reduceIte, Nat.reduceEqDiff, reduceCtorEq, Nat.reduceAdd, Nat.reduceLeDiff, Nat.reduceSub, Nat.reduceMul, Int.reduceEq, Nat.reduceBEq, hc5, hc7, hc8])
        exact retQ_r1 (by (try simp only [go_sem, ↓reduceIte, Nat.reduceEqDiff, reduceCtorEq, Nat.reduceAdd, Nat.reduceLeDiff, Nat.reduceSub, Nat.reduceMul, Int.reduceEq, Nat.reduceBEq, hc5, hc7, hc8]) <;> rfl) H hL.sub (hK _ h)
      | false =>
        have h := h.2 hc8
        (try simp only [go_sem, ↓reduceIte, Nat.reduceEqDiff, reduceCtorEq, Nat.reduceAdd, Nat.reduceLeDiff, Nat.reduceSub, Nat.reduceMul, Int.reduceEq, Nat.reduceBEq, hc5, hc7, hc8])
        cases hc9 : (decide (x_ > y_)) with
        | true =>
          have h := h.1 hc9
          (try simp only [go_sem, ↓reduceIte, Nat.reduceEqDiff, reduceCtorEq, Nat.reduceAdd, Nat.reduceLeDiff, Nat.reduceSub, Nat.reduceMul, Int.reduceEq, Nat.reduceBEq, hc5, hc7, hc8, hc9])
          exact retQ_r1 (by (try simp only [go_sem, ↓reduceIte, Nat.reduceEqDiff, reduceCtorEq, Nat.reduceAdd, Nat.reduceLeDiff, Nat.reduceSub, Nat.reduceMul, Int.reduceEq, Nat.reduceBEq, hc5, hc7, hc8, hc9]) <;> rfl) H hL.sub (hK _ h)
        | false =>
          have h := h.2 hc9
          (try simp only [go_sem, ↓reduceIte, Nat.reduceEqDiff, reduceCtorEq, Nat.reduceAdd, Nat.reduceLeDiff, Nat.reduceSub, Nat.reduceMul, Int.reduceEq, Nat.reduceBEq, hc5, hc7, hc8, hc9])
          exact retQ_r1 (by (try simp only [go_sem, ↓reduceIte, Nat.reduceEqDiff, reduceCtorEq, Nat.reduceAdd, Nat.reduceLeDiff, Nat.reduceSub, Nat.reduceMul, Int.reduceEq, Nat.reduceBEq, hc5, hc7, hc8, hc9]) <;> rfl) H hL.sub (hK _ h)
def w_impl_matches_1 (a_ : Int) (b_ : Int) (c0_ : (List S_Order)) (Q : Int → Prop) : Prop := c0_.length ≤ 1152921504606846976 → (In a_ c0_.length ∧ (In b_ c0_.length ∧ (w_cmp_Compare_int16 ((gt c0_ a_).fDay) ((gt c0_ b_).fDay) fun r20 => Q r20)))
theorem k_impl_matches_1 {a_ : Int} {b_ : Int} {c0_ : (List S_Order)} {Q : Int → Prop} (h : w_impl_matches_1 a_ b_ c0_ Q) {H : Hp} {bc0_ oc0_ : Nat} {csc0_ : List Value} (hbc0_ : rdObj (H bc0_) oc0_ 1 = some csc0_) (rc0_ : (RL R_Order 5) H c0_ csc0_) {K : Value → Hp → Prop} (hK : ∀ (r0 : Int), Q r0 → K (Value.int .i64 r0) H) :
    ACalls Go.Proofs.Try.prog n_impl_matches_1 #[Value.int .i64 a_, Value.int .i64 b_, .pointer (some ⟨bc0_, oc0_, none⟩)] H K := by
  unfold w_impl_matches_1 at h
  obtain ⟨w1, rfl, hw2⟩ := rc0_
  have h := h hw2.le
  refine acalls_go fn_impl_matches_1 rfl fun hl => ?_
  simp only [c_impl_matches_1]
  have hL := Loc.nil H
  have hrd3 := rd_sub hL.sub hbc0_
  obtain ⟨hi4, h⟩ := h
  obtain ⟨b5, o10, c6, hia7, hrd8, hR9⟩ := SlR.atB hw2 hL.sub (k := .i64) hi4
  obtain rfl : c6 = [Value.int .i8 ((gt c0_ a_).fBuyer), Value.int .i8 ((gt c0_ a_).fItem), Value.int .i16 ((gt c0_ a_).fNumber), Value.int .i16 ((gt c0_ a_).fPrice), Value.int .i16 ((gt c0_ a_).fDay)] := hR9
  have hrp11 : rdObj (H b5) (o10 + 4) 1 = some [Value.int .i16 ((gt c0_ a_).fDay)] := rd_part (k := 4) (m := 1) hrd8 (by omega)
  obtain ⟨hi12, h⟩ := h
  obtain ⟨b13, o18, c14, hia15, hrd16, hR17⟩ := SlR.atB hw2 hL.sub (k := .i64) hi12
  obtain rfl : c14 = [Value.int .i8 ((gt c0_ b_).fBuyer), Value.int .i8 ((gt c0_ b_).fItem), Value.int .i16 ((gt c0_ b_).fNumber), Value.int .i16 ((gt c0_ b_).fPrice), Value.int .i16 ((gt c0_ b_).fDay)] := hR17
  have hrp19 : rdObj (H b13) (o18 + 4) 1 = some [Value.int .i16 ((gt c0_ b_).fDay)] := rd_part (k := 4) (m := 1) hrd16 (by omega)
  (try simp only [go_sem, ↓reduceIte, Nat.reduceEqDiff, reduceCtorEq, Nat.reduceAdd, Nat.reduceLeDiff, Nat.reduceSub, Nat.reduceMul, Int.reduceEq, Nat.reduceBEq, hia7, hia15, hrd3, hrd8, hrp11, hrd16, hrp19])
  refine aw_call (by (try simp only [go_sem, ↓reduceIte, Nat.reduceEqDiff, reduceCtorEq, Nat.reduceAdd, Nat.reduceLeDiff, Nat.reduceSub, Nat.reduceMul, Int.reduceEq, Nat.reduceBEq, hia7, hia15, hrd3, hrd8, hrp11, hrd16, hrp19]) <;> rfl) (by (try simp only [go_sem, ↓reduceIte, Nat.reduceEqDiff, reduceCtorEq, Nat.reduceAdd, Nat.reduceLeDiff, Nat.reduceSub, Nat.reduceMul, Int.reduceEq, Nat.reduceBEq, hia7, hia15, hrd3, hrd8, hrp11, hrd16, hrp19]) <;> rfl) (k_cmp_Compare_int16 h fun r20 h => ?_)
  (try simp only [go_sem, ↓reduceIte, Nat.reduceEqDiff, reduceCtorEq, Nat.reduceAdd, Nat.reduceLeDiff, Nat.reduceSub, Nat.reduceMul, Int.reduceEq, Nat.reduceBEq, hia7, hia15, hrd3, hrd8, hrp11, hrd16, hrp19])
  exact retQ_r1 (by (try simp only [go_sem, ↓reduceIte, Nat.reduceEqDiff, reduceCtorEq, Nat.reduceAdd, Nat.reduceLeDiff, Nat.reduceSub, Nat.reduceMul, Int.reduceEq, Nat.reduceBEq, hia7, hia15, hrd3, hrd8, hrp11, hrd16, hrp19]) <;> rfl) H hL.sub (hK _ h)
end Go.Proofs.Ytonmmfjagkgifaa
