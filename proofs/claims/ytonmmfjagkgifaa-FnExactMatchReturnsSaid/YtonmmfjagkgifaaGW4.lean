/- Printed by gen.py, a program of this work: GW4 -/
import Derived.Test.YtonmmfjagkgifaaGT
import Derived.Test.YtonmmfjagkgifaaCodeF
import Derived.Test.YtonmmfjagkgifaaGW3
set_option linter.unusedVariables false
set_option linter.unusedSimpArgs false
namespace Go.Proofs.Ytonmmfjagkgifaa
open Go.RowKit
attribute [local go_sem] aw_mv aw_mkf aw_pick aw_bin aw_eqB aw_eqNil aw_eqAgg aw_un aw_conv aw_fa aw_ia aw_iaArr aw_ixArr aw_ixStr aw_fld aw_ext aw_bld aw_nilc aw_slc aw_slcArr aw_slcStr aw_len aw_cap aw_mnx aw_ld aw_st aw_guard_y aw_guard_n aw_nil aw_exit aw_ret aw_cond_t aw_cond_f aw_blk seqQ_norm seqQ_exit seqQ_ret blkQ_norm blkQ_exit_same blkQ_exit_ne blkQ_ret vPick_b vEqB_t vEqB_f vEqNil_sn vEqNil_ss vEqNil_pn vEqNil_ps vUn_neg vUn_not vUn_xor vConv_i vFa_p vIa_s vFld_a vExt_t vNilc_p vLen_s vLen_t vMnx_t vMnx_f abin_add abin_sub abin_mul abin_eql abin_neq abin_lss abin_leq abin_gtr abin_geq abin_and abin_or abin_xor abin_quo abin_rem abin_shl abin_shr abin_seq abin_sne abin_scat ev_tmp ev_const ev_func put_get puto_some puto_none args0_get List.getD_cons_succ List.getD_cons_zero Option.isSome_some Option.getD_some Option.isNone_none Option.isNone_some Option.map_some Option.map_none Value.bool.injEq Value.int.injEq add_mk aload_ptr rd_mk rdObj_row set_get astore_ptr apart_f apart_t List.length_cons List.length_nil List.drop_succ_cons List.drop_zero List.take_succ_cons List.take_zero List.map_cons List.map_nil Option.bind_some Option.bind_none ares_nil ares_tmp oneOf1 Nat.zero_add Nat.add_zero Bool.not_true Bool.not_false ne_eq not_false_eq_true not_true_eq_false decide_true decide_false Bool.true_and Bool.and_true Bool.false_eq_true and_self and_true true_and List.getElem?_cons_zero List.getElem?_cons_succ vc_agg vc_int vc_bool vc_slice aw_chk1 aw_chk2 st_agg st_int st_slice st_ptr one_int one_bool one_slice one_ptr one_str splice_eq aparts_nil aparts_cons afill_nil afill_cons rz0 rz1 rz2 List.all_cons List.all_nil Bool.and_self List.nil_append List.cons_append List.append_nil set_set lpQ_exit lpQ_ret vBld_def aw_guard_u abin_shr1 abin_shl1 st_bool st_str vc_str vc_ptr joinQ_exit joinQ_ret rngQ_cont rngQ_brk rngQ_out rngQ_ret
def w_laws_eqMatch (a_ : S_Match) (b_ : S_Match) (Q : Bool → Prop) : Prop := (((!decide (a_.fReturn = b_.fReturn)) = true → Q false) ∧ ((!decide (a_.fReturn = b_.fReturn)) = false → (((!decide (a_.fOrder = b_.fOrder)) = true → Q false) ∧ ((!decide (a_.fOrder = b_.fOrder)) = false → (((!decide (a_.fNumber = b_.fNumber)) = true → Q false) ∧ ((!decide (a_.fNumber = b_.fNumber)) = false → Q true))))))
theorem k_laws_eqMatch {a_ : S_Match} {b_ : S_Match} {Q : Bool → Prop} (h : w_laws_eqMatch a_ b_ Q) {H : Hp} {csa_ : List Value} (ra_ : R_Match H a_ csa_) {csb_ : List Value} (rb_ : R_Match H b_ csb_) {K : Value → Hp → Prop} (hK : ∀ (r0 : Bool), Q r0 → K (Value.bool r0) H) :
    ACalls Go.Proofs.Try.prog n_laws_eqMatch #[.agg csa_.toArray, .agg csb_.toArray] H K := by
  unfold w_laws_eqMatch at h
  obtain rfl : csa_ = [Value.int .i8 a_.fReturn, Value.int .i8 a_.fOrder, Value.int .i16 a_.fNumber] := ra_
  obtain rfl : csb_ = [Value.int .i8 b_.fReturn, Value.int .i8 b_.fOrder, Value.int .i16 b_.fNumber] := rb_
  refine acalls_go fn_laws_eqMatch rfl fun hl => ?_
  simp only [c_laws_eqMatch]
  have hL := Loc.nil H
  (try simp only [go_sem, ↓reduceIte, Nat.reduceEqDiff, reduceCtorEq, Nat.reduceAdd, Nat.reduceLeDiff, Nat.reduceSub, Nat.reduceMul, Int.reduceEq, Nat.reduceBEq])
  refine awL_box [Value.int .i8 a_.fReturn, Value.int .i8 a_.fOrder, Value.int .i16 a_.fNumber] hl hL (by (try simp only [go_sem, ↓reduceIte, Nat.reduceEqDiff, reduceCtorEq, Nat.reduceAdd, Nat.reduceLeDiff, Nat.reduceSub, Nat.reduceMul, Int.reduceEq, Nat.reduceBEq]) <;> rfl) fun b1 H2 hl3 hL4 => ?_
  (try simp only [go_sem, ↓reduceIte, Nat.reduceEqDiff, reduceCtorEq, Nat.reduceAdd, Nat.reduceLeDiff, Nat.reduceSub, Nat.reduceMul, Int.reduceEq, Nat.reduceBEq])
  refine awL_box [Value.int .i8 b_.fReturn, Value.int .i8 b_.fOrder, Value.int .i16 b_.fNumber] hl3 hL4 (by (try simp only [go_sem, ↓reduceIte, Nat.reduceEqDiff, reduceCtorEq, Nat.reduceAdd, Nat.reduceLeDiff, Nat.reduceSub, Nat.reduceMul, Int.reduceEq, Nat.reduceBEq]) <;> rfl) fun b6 H7 hl8 hL9 => ?_
  have hb11 := hL9.box 1 rfl
  have hb12 := hL9.box 0 rfl
  (try simp only [go_sem, ↓reduceIte, Nat.reduceEqDiff, reduceCtorEq, Nat.reduceAdd, Nat.reduceLeDiff, Nat.reduceSub, Nat.reduceMul, Int.reduceEq, Nat.reduceBEq, hb11, hb12])
  cases hc13 : (!decide (a_.fReturn = b_.fReturn)) with
  | true =>
    have h := h.1 hc13
    (try simp only [go_sem, ↓reduceIte, Nat.reduceEqDiff, reduceCtorEq, Nat.reduceAdd, Nat.reduceLeDiff, Nat.reduceSub, Nat.reduceMul, Int.reduceEq, Nat.reduceBEq, hc13, hb11, hb12])
    exact retQ_r1 (by (try simp only [go_sem, ↓reduceIte, Nat.reduceEqDiff, reduceCtorEq, Nat.reduceAdd, Nat.reduceLeDiff, Nat.reduceSub, Nat.reduceMul, Int.reduceEq, Nat.reduceBEq, hc13, hb11, hb12]) <;> rfl) H hL9.sub (hK _ h)
  | false =>
    have h := h.2 hc13
    (try simp only [go_sem, ↓reduceIte, Nat.reduceEqDiff, reduceCtorEq, Nat.reduceAdd, Nat.reduceLeDiff, Nat.reduceSub, Nat.reduceMul, Int.reduceEq, Nat.reduceBEq, hc13, hb11, hb12])
    cases hc14 : (!decide (a_.fOrder = b_.fOrder)) with
    | true =>
      have h := h.1 hc14
      (try simp only [go_sem, ↓reduceIte, Nat.reduceEqDiff, reduceCtorEq, Nat.reduceAdd, Nat.reduceLeDiff, Nat.reduceSub, Nat.reduceMul, Int.reduceEq, Nat.reduceBEq, hc13, hc14, hb11, hb12])
      exact retQ_r1 (by (try simp only [go_sem, ↓reduceIte, Nat.reduceEqDiff, reduceCtorEq, Nat.reduceAdd, Nat.reduceLeDiff, Nat.reduceSub, Nat.reduceMul, Int.reduceEq, Nat.reduceBEq, hc13, hc14, hb11, hb12]) <;> rfl) H hL9.sub (hK _ h)
    | false =>
      have h := h.2 hc14
      (try simp only [go_sem, ↓reduceIte, Nat.reduceEqDiff, reduceCtorEq, Nat.reduceAdd, Nat.reduceLeDiff, Nat.reduceSub, Nat.reduceMul, Int.reduceEq, Nat.reduceBEq, hc13, hc14, hb11, hb12])
      cases hc15 : (!decide (a_.fNumber = b_.fNumber)) with
      | true =>
        have h := h.1 hc15
        (try simp only [go_sem, ↓reduceIte, Nat.reduceEqDiff, reduceCtorEq, Nat.reduceAdd, Nat.reduceLeDiff, Nat.reduceSub, Nat.reduceMul, Int.reduceEq, Nat.reduceBEq, hc13, hc14, hc15, hb11, hb12])
        exact retQ_r1 (by (try simp only [go_sem, ↓reduceIte, Nat.reduceEqDiff, reduceCtorEq, Nat.reduceAdd, Nat.reduceLeDiff, Nat.reduceSub, Nat.reduceMul, Int.reduceEq, Nat.reduceBEq, hc13, hc14, hc15, hb11, hb12]) <;> rfl) H hL9.sub (hK _ h)
      | false =>
        have h := h.2 hc15
        (try simp only [go_sem, ↓reduceIte, Nat.reduceEqDiff, reduceCtorEq, Nat.reduceAdd, Nat.reduceLeDiff, Nat.reduceSub, Nat.reduceMul, Int.reduceEq, Nat.reduceBEq, hc13, hc14, hc15, hb11, hb12])
        exact retQ_r1 (by (try simp only [go_sem, ↓reduceIte, Nat.reduceEqDiff, reduceCtorEq, Nat.reduceAdd, Nat.reduceLeDiff, Nat.reduceSub, Nat.reduceMul, Int.reduceEq, Nat.reduceBEq, hc13, hc14, hc15, hb11, hb12]) <;> rfl) H hL9.sub (hK _ h)
def w_laws_eqMatchS (a_ : (List S_Match)) (b_ : (List S_Match)) (Q : Bool → Prop) : Prop := a_.length ≤ 1152921504606846976 → b_.length ≤ 1152921504606846976 → (((!decide ((a_.length : Int) = (b_.length : Int))) = true → Q false) ∧ ((!decide ((a_.length : Int) = (b_.length : Int))) = false → (∃ I39 : Nat → Int → Prop, (∃ m, I39 m 0) ∧ (∀ (m48 : Nat) (x38 : Int), I39 m48 x38 → (((decide (x38 < (a_.length : Int))) = true → (In x38 a_.length ∧ (In x38 b_.length ∧ (w_laws_eqMatch (gt a_ x38) (gt b_ x38) fun r69 => (((!r69) = true → Q false) ∧ ((!r69) = false → (∃ m49, m49 < m48 ∧ I39 m49 (IntKind.i64.wrap (x38 + 1))))))))) ∧ ((decide (x38 < (a_.length : Int))) = false → Q true))))))
theorem k_laws_eqMatchS {a_ : (List S_Match)} {b_ : (List S_Match)} {Q : Bool → Prop} (h : w_laws_eqMatchS a_ b_ Q) {H : Hp} {va_ : Value} (ra_ : SlR R_Match 3 H a_ va_) {vb_ : Value} (rb_ : SlR R_Match 3 H b_ vb_) {K : Value → Hp → Prop} (hK : ∀ (r0 : Bool), Q r0 → K (Value.bool r0) H) :
    ACalls Go.Proofs.Try.prog n_laws_eqMatchS #[va_, vb_] H K := by
  unfold w_laws_eqMatchS at h
  have h := h ra_.le
  have h := h rb_.le
  refine acalls_go fn_laws_eqMatchS rfl fun hl => ?_
  simp only [c_laws_eqMatchS]
  have hL := Loc.nil H
  have hn1 := ra_.len
  have hn2 := rb_.len
  (try simp only [go_sem, ↓reduceIte, Nat.reduceEqDiff, reduceCtorEq, Nat.reduceAdd, Nat.reduceLeDiff, Nat.reduceSub, Nat.reduceMul, Int.reduceEq, Nat.reduceBEq, hn1, hn2])
  cases hc3 : (!decide ((a_.length : Int) = (b_.length : Int))) with
  | true =>
    have h := h.1 hc3
    (try simp only [go_sem, ↓reduceIte, Nat.reduceEqDiff, reduceCtorEq, Nat.reduceAdd, Nat.reduceLeDiff, Nat.reduceSub, Nat.reduceMul, Int.reduceEq, Nat.reduceBEq, hn1, hn2, hc3])
    exact retQ_r1 (by (try simp only [go_sem, ↓reduceIte, Nat.reduceEqDiff, reduceCtorEq, Nat.reduceAdd, Nat.reduceLeDiff, Nat.reduceSub, Nat.reduceMul, Int.reduceEq, Nat.reduceBEq, hn1, hn2, hc3]) <;> rfl) H hL.sub (hK _ h)
  | false =>
    have h := h.2 hc3
    (try simp only [go_sem, ↓reduceIte, Nat.reduceEqDiff, reduceCtorEq, Nat.reduceAdd, Nat.reduceLeDiff, Nat.reduceSub, Nat.reduceMul, Int.reduceEq, Nat.reduceBEq, hn1, hn2, hc3])
    obtain ⟨I39, ⟨m0, h0⟩, hSI39⟩ := h
    refine aw_loopM hl (fun m48 T' H' => ∃ x38, I39 m48 x38 ∧ T' 5 = Value.int .i64 x38 ∧ Loc H H' []) m0 H (Hp.sub.refl _) ⟨0, h0, (by (try simp only [go_sem, ↓reduceIte, Nat.reduceEqDiff, reduceCtorEq, Nat.reduceAdd, Nat.reduceLeDiff, Nat.reduceSub, Nat.reduceMul, Int.reduceEq, Nat.reduceBEq, hn1, hn2, hc3]) <;> rfl), hL⟩ ?_
    rintro m48 T42 H41 hl43 ho44 ⟨x38, hI46, t47, hL45⟩
    have t51 : T42 0 = va_ := by rw [ho44.get rfl]; (try simp only [go_sem, ↓reduceIte, Nat.reduceEqDiff, reduceCtorEq, Nat.reduceAdd, Nat.reduceLeDiff, Nat.reduceSub, Nat.reduceMul, Int.reduceEq, Nat.reduceBEq, hn1, hn2, hc3])
    have t52 : T42 1 = vb_ := by rw [ho44.get rfl]; (try simp only [go_sem, ↓reduceIte, Nat.reduceEqDiff, reduceCtorEq, Nat.reduceAdd, Nat.reduceLeDiff, Nat.reduceSub, Nat.reduceMul, Int.reduceEq, Nat.reduceBEq, hn1, hn2, hc3])
    have h := hSI39 m48 x38 hI46
    have hn53 := ra_.len
    (try simp only [go_sem, ↓reduceIte, Nat.reduceEqDiff, reduceCtorEq, Nat.reduceAdd, Nat.reduceLeDiff, Nat.reduceSub, Nat.reduceMul, Int.reduceEq, Nat.reduceBEq, t47, t51, t52, hn1, hn2, hc3, hn53])
    cases hc54 : (decide (x38 < (a_.length : Int))) with
    | true =>
      have h := h.1 hc54
      obtain ⟨hi55, h⟩ := h
      obtain ⟨b56, o61, c57, hia58, hrd59, hR60⟩ := SlR.atB ra_ hL45.sub (k := .i64) hi55
      obtain rfl : c57 = [Value.int .i8 ((gt a_ x38).fReturn), Value.int .i8 ((gt a_ x38).fOrder), Value.int .i16 ((gt a_ x38).fNumber)] := hR60
      obtain ⟨hi62, h⟩ := h
      obtain ⟨b63, o68, c64, hia65, hrd66, hR67⟩ := SlR.atB rb_ hL45.sub (k := .i64) hi62
      obtain rfl : c64 = [Value.int .i8 ((gt b_ x38).fReturn), Value.int .i8 ((gt b_ x38).fOrder), Value.int .i16 ((gt b_ x38).fNumber)] := hR67
      (try simp only [go_sem, ↓reduceIte, Nat.reduceEqDiff, reduceCtorEq, Nat.reduceAdd, Nat.reduceLeDiff, Nat.reduceSub, Nat.reduceMul, Int.reduceEq, Nat.reduceBEq, t47, t51, t52, hn1, hn2, hc3, hn53, hc54, hia58, hia65, hrd59, hrd66])
      refine aw_call (by (try simp only [go_sem, ↓reduceIte, Nat.reduceEqDiff, reduceCtorEq, Nat.reduceAdd, Nat.reduceLeDiff, Nat.reduceSub, Nat.reduceMul, Int.reduceEq, Nat.reduceBEq, t47, t51, t52, hn1, hn2, hc3, hn53, hc54, hia58, hia65, hrd59, hrd66]) <;> rfl) (by (try simp only [go_sem, ↓reduceIte, Nat.reduceEqDiff, reduceCtorEq, Nat.reduceAdd, Nat.reduceLeDiff, Nat.reduceSub, Nat.reduceMul, Int.reduceEq, Nat.reduceBEq, t47, t51, t52, hn1, hn2, hc3, hn53, hc54, hia58, hia65, hrd59, hrd66]) <;> rfl) (k_laws_eqMatch h rfl rfl fun r69 h => ?_)
      (try simp only [go_sem, ↓reduceIte, Nat.reduceEqDiff, reduceCtorEq, Nat.reduceAdd, Nat.reduceLeDiff, Nat.reduceSub, Nat.reduceMul, Int.reduceEq, Nat.reduceBEq, t47, t51, t52, hn1, hn2, hc3, hn53, hc54, hia58, hia65, hrd59, hrd66])
      cases hc71 : (!r69) with
      | true =>
        have h := h.1 hc71
        (try simp only [go_sem, ↓reduceIte, Nat.reduceEqDiff, reduceCtorEq, Nat.reduceAdd, Nat.reduceLeDiff, Nat.reduceSub, Nat.reduceMul, Int.reduceEq, Nat.reduceBEq, t47, t51, t52, hn1, hn2, hc3, hn53, hc54, hia58, hia65, hc71, hrd59, hrd66])
        exact retQ_r1 (by (try simp only [go_sem, ↓reduceIte, Nat.reduceEqDiff, reduceCtorEq, Nat.reduceAdd, Nat.reduceLeDiff, Nat.reduceSub, Nat.reduceMul, Int.reduceEq, Nat.reduceBEq, t47, t51, t52, hn1, hn2, hc3, hn53, hc54, hia58, hia65, hc71, hrd59, hrd66]) <;> rfl) H hL45.sub (hK _ h)
      | false =>
        have h := h.2 hc71
        obtain ⟨m49, hm50, h⟩ := h
        (try simp only [go_sem, ↓reduceIte, Nat.reduceEqDiff, reduceCtorEq, Nat.reduceAdd, Nat.reduceLeDiff, Nat.reduceSub, Nat.reduceMul, Int.reduceEq, Nat.reduceBEq, t47, t51, t52, hn1, hn2, hc3, hn53, hc54, hia58, hia65, hc71, hrd59, hrd66])
        exact ⟨m49, H41, hm50, Hp.sub.refl _, (IntKind.i64.wrap (x38 + 1)), h, (by (try simp only [go_sem, ↓reduceIte, Nat.reduceEqDiff, reduceCtorEq, Nat.reduceAdd, Nat.reduceLeDiff, Nat.reduceSub, Nat.reduceMul, Int.reduceEq, Nat.reduceBEq, t47, t51, t52, hn1, hn2, hc3, hn53, hc54, hia58, hia65, hc71, hrd59, hrd66]) <;> rfl), hL45⟩
    | false =>
      have h := h.2 hc54
      (try simp only [go_sem, ↓reduceIte, Nat.reduceEqDiff, reduceCtorEq, Nat.reduceAdd, Nat.reduceLeDiff, Nat.reduceSub, Nat.reduceMul, Int.reduceEq, Nat.reduceBEq, t47, t51, t52, hn1, hn2, hc3, hn53, hc54])
      exact retQ_r1 (by (try simp only [go_sem, ↓reduceIte, Nat.reduceEqDiff, reduceCtorEq, Nat.reduceAdd, Nat.reduceLeDiff, Nat.reduceSub, Nat.reduceMul, Int.reduceEq, Nat.reduceBEq, t47, t51, t52, hn1, hn2, hc3, hn53, hc54]) <;> rfl) H hL45.sub (hK _ h)
def w_laws_markMatchS (a_ : (List S_Match)) (k_ : Int) (Q : Int → (List S_Match) → Prop) : Prop := (∃ I146 : Nat → Int → Int → (List S_Match) → Prop, (∃ m, I146 m k_ 0 a_) ∧ (∀ (m156 : Nat) (x139 : Int) (x140 : Int) (xs141 : List S_Match), I146 m156 x139 x140 xs141 → (((decide (x140 < (xs141.length : Int))) = true → (In x140 xs141.length ∧ (∀ xs175, xs175 = (xs141.set (x140).toNat (⟨(IntKind.i8.wrap x139), (gt xs141 x140).fOrder, (gt xs141 x140).fNumber⟩ : S_Match)) → (In x140 xs175.length ∧ (∀ xs191, xs191 = (xs175.set (x140).toNat (⟨(gt xs175 x140).fReturn, (IntKind.i8.wrap (IntKind.i64.wrap (x139 + 1))), (gt xs175 x140).fNumber⟩ : S_Match)) → (In x140 xs191.length ∧ (∀ xs207, xs207 = (xs191.set (x140).toNat (⟨(gt xs191 x140).fReturn, (gt xs191 x140).fOrder, (IntKind.i16.wrap (IntKind.i64.wrap ((IntKind.i64.wrap (x139 + 1)) + 1)))⟩ : S_Match)) → (∃ m157, m157 < m156 ∧ I146 m157 (IntKind.i64.wrap ((IntKind.i64.wrap ((IntKind.i64.wrap (x139 + 1)) + 1)) + 1)) (IntKind.i64.wrap (x140 + 1)) xs207)))))))) ∧ ((decide (x140 < (xs141.length : Int))) = false → Q x139 xs141))))
theorem k_laws_markMatchS {a_ : (List S_Match)} {k_ : Int} {Q : Int → (List S_Match) → Prop} (h : w_laws_markMatchS a_ k_ Q) {H H0 : Hp} {kba_ : Option Nat} {tya_ : TypeId} {va_ : Value} {rowsa_ : List (List Value)} (hH : H = H0.minus kba_) (hoa_ : E.ok H0 (.own kba_ tya_ 3 va_ rowsa_)) (ra_ : Rows R_Match H a_ rowsa_) {K : Value → Hp → Prop} (hK : ∀ (r0 : Int) (x' : (List S_Match)), Q r0 x' → ∀ (H' : Hp) (rows' : List (List Value)), Live H' → Loc H H' ([] ++ [.own kba_ tya_ 3 va_ rows']) → Rows R_Match H x' rows' → K (Value.int .i64 r0) H') :
    ACalls Go.Proofs.Try.prog n_laws_markMatchS #[va_, Value.int .i64 k_] H0 K := by
  unfold w_laws_markMatchS at h
  refine acalls_go fn_laws_markMatchS rfl fun hl => ?_
  simp only [c_laws_markMatchS]
  have hL := Loc.one hH hoa_
  (try simp only [go_sem, ↓reduceIte, Nat.reduceEqDiff, reduceCtorEq, Nat.reduceAdd, Nat.reduceLeDiff, Nat.reduceSub, Nat.reduceMul, Int.reduceEq, Nat.reduceBEq])
  obtain ⟨I146, ⟨m0, h0⟩, hSI146⟩ := h
  refine aw_loopM hl (fun m156 T' H' => ∃ x139 x140 xs141 rows144, I146 m156 x139 x140 xs141 ∧ T' 1 = Value.int .i64 x139 ∧ T' 5 = Value.int .i64 x140 ∧ Loc H H' [.own kba_ tya_ 3 va_ rows144] ∧ Rows R_Match H xs141 rows144) m0 H0 (Hp.sub.refl _) ⟨k_, 0, a_, rowsa_, h0, (by (try simp only [go_sem, ↓reduceIte, Nat.reduceEqDiff, reduceCtorEq, Nat.reduceAdd, Nat.reduceLeDiff, Nat.reduceSub, Nat.reduceMul, Int.reduceEq, Nat.reduceBEq]) <;> rfl), (by (try simp only [go_sem, ↓reduceIte, Nat.reduceEqDiff, reduceCtorEq, Nat.reduceAdd, Nat.reduceLeDiff, Nat.reduceSub, Nat.reduceMul, Int.reduceEq, Nat.reduceBEq]) <;> rfl), hL, ra_⟩ ?_
  rintro m156 T149 H148 hl150 ho151 ⟨x139, x140, xs141, rows144, hI153, t154, t155, hL152, hr145⟩
  have t159 : T149 0 = va_ := by rw [ho151.get rfl]; (try simp only [go_sem, ↓reduceIte, Nat.reduceEqDiff, reduceCtorEq, Nat.reduceAdd, Nat.reduceLeDiff, Nat.reduceSub, Nat.reduceMul, Int.reduceEq, Nat.reduceBEq])
  have h := hSI146 m156 x139 x140 xs141 hI153
  have hn160 := hL152.lenR 0 rfl hr145
  (try simp only [go_sem, ↓reduceIte, Nat.reduceEqDiff, reduceCtorEq, Nat.reduceAdd, Nat.reduceLeDiff, Nat.reduceSub, Nat.reduceMul, Int.reduceEq, Nat.reduceBEq, t154, t155, t159, hn160])
  cases hc161 : (decide (x140 < (xs141.length : Int))) with
  | true =>
    have h := h.1 hc161
    obtain ⟨hi162, h⟩ := h
    obtain ⟨b163, c164, hkb168, hia165, hrd166, hg169, hlt170, hR167⟩ := hL152.atR 0 rfl hr145 (k := .i64) hi162
    obtain rfl : c164 = [Value.int .i8 ((gt xs141 x140).fReturn), Value.int .i8 ((gt xs141 x140).fOrder), Value.int .i16 ((gt xs141 x140).fNumber)] := hR167
    (try simp only [go_sem, ↓reduceIte, Nat.reduceEqDiff, reduceCtorEq, Nat.reduceAdd, Nat.reduceLeDiff, Nat.reduceSub, Nat.reduceMul, Int.reduceEq, Nat.reduceBEq, t154, t155, t159, hn160, hc161, hia165, hrd166])
    refine awL_wrR (sub := 0) (r' := [Value.int .i8 (IntKind.i8.wrap x139), Value.int .i8 ((gt xs141 x140).fOrder), Value.int .i16 ((gt xs141 x140).fNumber)]) 0 hl150 hL152 rfl hkb168 hlt170 hg169 (by (try simp only [go_sem, ↓reduceIte, Nat.reduceEqDiff, reduceCtorEq, Nat.reduceAdd, Nat.reduceLeDiff, Nat.reduceSub, Nat.reduceMul, Int.reduceEq, Nat.reduceBEq, t154, t155, t159, hn160, hc161, hia165, hrd166]) <;> rfl) rfl (by (try simp only [go_sem, ↓reduceIte, Nat.reduceEqDiff, reduceCtorEq, Nat.reduceAdd, Nat.reduceLeDiff, Nat.reduceSub, Nat.reduceMul, Int.reduceEq, Nat.reduceBEq, t154, t155, t159, hn160, hc161, hia165, hrd166]) <;> rfl) (by (try simp only [go_sem, ↓reduceIte, Nat.reduceEqDiff, reduceCtorEq, Nat.reduceAdd, Nat.reduceLeDiff, Nat.reduceSub, Nat.reduceMul, Int.reduceEq, Nat.reduceBEq, t154, t155, t159, hn160, hc161, hia165, hrd166]) <;> rfl) fun H171 hl172 hL173 => ?_
    have hr174 := hr145.set (x140).toNat (show R_Match H (⟨(IntKind.i8.wrap x139), (gt xs141 x140).fOrder, (gt xs141 x140).fNumber⟩ : S_Match) [Value.int .i8 (IntKind.i8.wrap x139), Value.int .i8 ((gt xs141 x140).fOrder), Value.int .i16 ((gt xs141 x140).fNumber)] from rfl)
    obtain ⟨xs175, hxs176⟩ : ∃ ys, ys = (xs141.set (x140).toNat (⟨(IntKind.i8.wrap x139), (gt xs141 x140).fOrder, (gt xs141 x140).fNumber⟩ : S_Match)) := ⟨_, rfl⟩
    rw [← hxs176] at hr174
    have h := h xs175 hxs176
    generalize (rows144.set (x140).toNat [Value.int .i8 (IntKind.i8.wrap x139), Value.int .i8 ((gt xs141 x140).fOrder), Value.int .i16 ((gt xs141 x140).fNumber)]) = rows177 at hL173 hr174
    obtain ⟨hi178, h⟩ := h
    obtain ⟨b179, c180, hkb184, hia181, hrd182, hg185, hlt186, hR183⟩ := hL173.atR 0 rfl hr174 (k := .i64) hi178
    obtain rfl : c180 = [Value.int .i8 ((gt xs175 x140).fReturn), Value.int .i8 ((gt xs175 x140).fOrder), Value.int .i16 ((gt xs175 x140).fNumber)] := hR183
    (try simp only [go_sem, ↓reduceIte, Nat.reduceEqDiff, reduceCtorEq, Nat.reduceAdd, Nat.reduceLeDiff, Nat.reduceSub, Nat.reduceMul, Int.reduceEq, Nat.reduceBEq, t154, t155, t159, hn160, hc161, hia181, hrd182])
    refine awL_wrR (sub := 1) (r' := [Value.int .i8 ((gt xs175 x140).fReturn), Value.int .i8 (IntKind.i8.wrap (IntKind.i64.wrap (x139 + 1))), Value.int .i16 ((gt xs175 x140).fNumber)]) 0 hl172 hL173 rfl hkb184 hlt186 hg185 (by (try simp only [go_sem, ↓reduceIte, Nat.reduceEqDiff, reduceCtorEq, Nat.reduceAdd, Nat.reduceLeDiff, Nat.reduceSub, Nat.reduceMul, Int.reduceEq, Nat.reduceBEq, t154, t155, t159, hn160, hc161, hia181, hrd182]) <;> rfl) rfl (by (try simp only [go_sem, ↓reduceIte, Nat.reduceEqDiff, reduceCtorEq, Nat.reduceAdd, Nat.reduceLeDiff, Nat.reduceSub, Nat.reduceMul, Int.reduceEq, Nat.reduceBEq, t154, t155, t159, hn160, hc161, hia181, hrd182]) <;> rfl) (by (try simp only [go_sem, ↓reduceIte, Nat.reduceEqDiff, reduceCtorEq, Nat.reduceAdd, Nat.reduceLeDiff, Nat.reduceSub, Nat.reduceMul, Int.reduceEq, Nat.reduceBEq, t154, t155, t159, hn160, hc161, hia181, hrd182]) <;> rfl) fun H187 hl188 hL189 => ?_
    have hr190 := hr174.set (x140).toNat (show R_Match H (⟨(gt xs175 x140).fReturn, (IntKind.i8.wrap (IntKind.i64.wrap (x139 + 1))), (gt xs175 x140).fNumber⟩ : S_Match) [Value.int .i8 ((gt xs175 x140).fReturn), Value.int .i8 (IntKind.i8.wrap (IntKind.i64.wrap (x139 + 1))), Value.int .i16 ((gt xs175 x140).fNumber)] from rfl)
    obtain ⟨xs191, hxs192⟩ : ∃ ys, ys = (xs175.set (x140).toNat (⟨(gt xs175 x140).fReturn, (IntKind.i8.wrap (IntKind.i64.wrap (x139 + 1))), (gt xs175 x140).fNumber⟩ : S_Match)) := ⟨_, rfl⟩
    rw [← hxs192] at hr190
    have h := h xs191 hxs192
    generalize (rows177.set (x140).toNat [Value.int .i8 ((gt xs175 x140).fReturn), Value.int .i8 (IntKind.i8.wrap (IntKind.i64.wrap (x139 + 1))), Value.int .i16 ((gt xs175 x140).fNumber)]) = rows193 at hL189 hr190
    obtain ⟨hi194, h⟩ := h
    obtain ⟨b195, c196, hkb200, hia197, hrd198, hg201, hlt202, hR199⟩ := hL189.atR 0 rfl hr190 (k := .i64) hi194
    obtain rfl : c196 = [Value.int .i8 ((gt xs191 x140).fReturn), Value.int .i8 ((gt xs191 x140).fOrder), Value.int .i16 ((gt xs191 x140).fNumber)] := hR199
    (try simp only [go_sem, ↓reduceIte, Nat.reduceEqDiff, reduceCtorEq, Nat.reduceAdd, Nat.reduceLeDiff, Nat.reduceSub, Nat.reduceMul, Int.reduceEq, Nat.reduceBEq, t154, t155, t159, hn160, hc161, hia197, hrd198])
    refine awL_wrR (sub := 2) (r' := [Value.int .i8 ((gt xs191 x140).fReturn), Value.int .i8 ((gt xs191 x140).fOrder), Value.int .i16 (IntKind.i16.wrap (IntKind.i64.wrap ((IntKind.i64.wrap (x139 + 1)) + 1)))]) 0 hl188 hL189 rfl hkb200 hlt202 hg201 (by (try simp only [go_sem, ↓reduceIte, Nat.reduceEqDiff, reduceCtorEq, Nat.reduceAdd, Nat.reduceLeDiff, Nat.reduceSub, Nat.reduceMul, Int.reduceEq, Nat.reduceBEq, t154, t155, t159, hn160, hc161, hia197, hrd198]) <;> rfl) rfl (by (try simp only [go_sem, ↓reduceIte, Nat.reduceEqDiff, reduceCtorEq, Nat.reduceAdd, Nat.reduceLeDiff, Nat.reduceSub, Nat.reduceMul, Int.reduceEq, Nat.reduceBEq, t154, t155, t159, hn160, hc161, hia197, hrd198]) <;> rfl) (by (try simp only [go_sem, ↓reduceIte, Nat.reduceEqDiff, reduceCtorEq, Nat.reduceAdd, Nat.reduceLeDiff, Nat.reduceSub, Nat.reduceMul, Int.reduceEq, Nat.reduceBEq, t154, t155, t159, hn160, hc161, hia197, hrd198]) <;> rfl) fun H203 hl204 hL205 => ?_
    have hr206 := hr190.set (x140).toNat (show R_Match H (⟨(gt xs191 x140).fReturn, (gt xs191 x140).fOrder, (IntKind.i16.wrap (IntKind.i64.wrap ((IntKind.i64.wrap (x139 + 1)) + 1)))⟩ : S_Match) [Value.int .i8 ((gt xs191 x140).fReturn), Value.int .i8 ((gt xs191 x140).fOrder), Value.int .i16 (IntKind.i16.wrap (IntKind.i64.wrap ((IntKind.i64.wrap (x139 + 1)) + 1)))] from rfl)
    obtain ⟨xs207, hxs208⟩ : ∃ ys, ys = (xs191.set (x140).toNat (⟨(gt xs191 x140).fReturn, (gt xs191 x140).fOrder, (IntKind.i16.wrap (IntKind.i64.wrap ((IntKind.i64.wrap (x139 + 1)) + 1)))⟩ : S_Match)) := ⟨_, rfl⟩
    rw [← hxs208] at hr206
    have h := h xs207 hxs208
    generalize (rows193.set (x140).toNat [Value.int .i8 ((gt xs191 x140).fReturn), Value.int .i8 ((gt xs191 x140).fOrder), Value.int .i16 (IntKind.i16.wrap (IntKind.i64.wrap ((IntKind.i64.wrap (x139 + 1)) + 1)))]) = rows209 at hL205 hr206
    obtain ⟨m157, hm158, h⟩ := h
    (try simp only [go_sem, ↓reduceIte, Nat.reduceEqDiff, reduceCtorEq, Nat.reduceAdd, Nat.reduceLeDiff, Nat.reduceSub, Nat.reduceMul, Int.reduceEq, Nat.reduceBEq, t154, t155, t159, hn160, hc161, hia197])
    exact ⟨m157, H203, hm158, Hp.sub.refl _, (IntKind.i64.wrap ((IntKind.i64.wrap ((IntKind.i64.wrap (x139 + 1)) + 1)) + 1)), (IntKind.i64.wrap (x140 + 1)), xs207, rows209, h, (by (try simp only [go_sem, ↓reduceIte, Nat.reduceEqDiff, reduceCtorEq, Nat.reduceAdd, Nat.reduceLeDiff, Nat.reduceSub, Nat.reduceMul, Int.reduceEq, Nat.reduceBEq, t154, t155, t159, hn160, hc161, hia197]) <;> rfl), (by (try simp only [go_sem, ↓reduceIte, Nat.reduceEqDiff, reduceCtorEq, Nat.reduceAdd, Nat.reduceLeDiff, Nat.reduceSub, Nat.reduceMul, Int.reduceEq, Nat.reduceBEq, t154, t155, t159, hn160, hc161, hia197]) <;> rfl), hL205, hr206⟩
  | false =>
    have h := h.2 hc161
    (try simp only [go_sem, ↓reduceIte, Nat.reduceEqDiff, reduceCtorEq, Nat.reduceAdd, Nat.reduceLeDiff, Nat.reduceSub, Nat.reduceMul, Int.reduceEq, Nat.reduceBEq, t154, t155, t159, hn160, hc161])
    exact retQ_r1 (by (try simp only [go_sem, ↓reduceIte, Nat.reduceEqDiff, reduceCtorEq, Nat.reduceAdd, Nat.reduceLeDiff, Nat.reduceSub, Nat.reduceMul, Int.reduceEq, Nat.reduceBEq, t154, t155, t159, hn160, hc161]) <;> rfl) H148 (Hp.sub.refl _) (hK _ _ h H148 rows144 hl150 (hL152.sel [0] (by decide)) hr145)
def w_laws_heldMatchS (a_ : (List S_Match)) (k_ : Int) (Q : Int → Prop) : Prop := a_.length ≤ 1152921504606846976 → (∃ I34 : Nat → Int → Int → Prop, (∃ m, I34 m k_ 0) ∧ (∀ (m44 : Nat) (x32 : Int) (x33 : Int), I34 m44 x32 x33 → (((decide (x33 < (a_.length : Int))) = true → (In x33 a_.length ∧ (((!decide ((gt a_ x33).fReturn = (IntKind.i8.wrap x32))) = true → Q (-1)) ∧ ((!decide ((gt a_ x33).fReturn = (IntKind.i8.wrap x32))) = false → (((!decide ((gt a_ x33).fOrder = (IntKind.i8.wrap (IntKind.i64.wrap (x32 + 1))))) = true → Q (-1)) ∧ ((!decide ((gt a_ x33).fOrder = (IntKind.i8.wrap (IntKind.i64.wrap (x32 + 1))))) = false → (((!decide ((gt a_ x33).fNumber = (IntKind.i16.wrap (IntKind.i64.wrap ((IntKind.i64.wrap (x32 + 1)) + 1))))) = true → Q (-1)) ∧ ((!decide ((gt a_ x33).fNumber = (IntKind.i16.wrap (IntKind.i64.wrap ((IntKind.i64.wrap (x32 + 1)) + 1))))) = false → (∃ m45, m45 < m44 ∧ I34 m45 (IntKind.i64.wrap ((IntKind.i64.wrap ((IntKind.i64.wrap (x32 + 1)) + 1)) + 1)) (IntKind.i64.wrap (x33 + 1))))))))))) ∧ ((decide (x33 < (a_.length : Int))) = false → Q x32))))
theorem k_laws_heldMatchS {a_ : (List S_Match)} {k_ : Int} {Q : Int → Prop} (h : w_laws_heldMatchS a_ k_ Q) {H : Hp} {va_ : Value} (ra_ : SlR R_Match 3 H a_ va_) {K : Value → Hp → Prop} (hK : ∀ (r0 : Int), Q r0 → K (Value.int .i64 r0) H) :
    ACalls Go.Proofs.Try.prog n_laws_heldMatchS #[va_, Value.int .i64 k_] H K := by
  unfold w_laws_heldMatchS at h
  have h := h ra_.le
  refine acalls_go fn_laws_heldMatchS rfl fun hl => ?_
  simp only [c_laws_heldMatchS]
  have hL := Loc.nil H
  (try simp only [go_sem, ↓reduceIte, Nat.reduceEqDiff, reduceCtorEq, Nat.reduceAdd, Nat.reduceLeDiff, Nat.reduceSub, Nat.reduceMul, Int.reduceEq, Nat.reduceBEq])
  obtain ⟨I34, ⟨m0, h0⟩, hSI34⟩ := h
  refine aw_loopM hl (fun m44 T' H' => ∃ x32 x33, I34 m44 x32 x33 ∧ T' 1 = Value.int .i64 x32 ∧ T' 5 = Value.int .i64 x33 ∧ Loc H H' []) m0 H (Hp.sub.refl _) ⟨k_, 0, h0, (by (try simp only [go_sem, ↓reduceIte, Nat.reduceEqDiff, reduceCtorEq, Nat.reduceAdd, Nat.reduceLeDiff, Nat.reduceSub, Nat.reduceMul, Int.reduceEq, Nat.reduceBEq]) <;> rfl), (by (try simp only [go_sem, ↓reduceIte, Nat.reduceEqDiff, reduceCtorEq, Nat.reduceAdd, Nat.reduceLeDiff, Nat.reduceSub, Nat.reduceMul, Int.reduceEq, Nat.reduceBEq]) <;> rfl), hL⟩ ?_
  rintro m44 T37 H36 hl38 ho39 ⟨x32, x33, hI41, t42, t43, hL40⟩
  have t47 : T37 0 = va_ := by rw [ho39.get rfl]; (try simp only [go_sem, ↓reduceIte, Nat.reduceEqDiff, reduceCtorEq, Nat.reduceAdd, Nat.reduceLeDiff, Nat.reduceSub, Nat.reduceMul, Int.reduceEq, Nat.reduceBEq])
  have h := hSI34 m44 x32 x33 hI41
  have hn48 := ra_.len
  (try simp only [go_sem, ↓reduceIte, Nat.reduceEqDiff, reduceCtorEq, Nat.reduceAdd, Nat.reduceLeDiff, Nat.reduceSub, Nat.reduceMul, Int.reduceEq, Nat.reduceBEq, t42, t43, t47, hn48])
  cases hc49 : (decide (x33 < (a_.length : Int))) with
  | true =>
    have h := h.1 hc49
    obtain ⟨hi50, h⟩ := h
    obtain ⟨b51, o56, c52, hia53, hrd54, hR55⟩ := SlR.atB ra_ hL40.sub (k := .i64) hi50
    obtain rfl : c52 = [Value.int .i8 ((gt a_ x33).fReturn), Value.int .i8 ((gt a_ x33).fOrder), Value.int .i16 ((gt a_ x33).fNumber)] := hR55
    have hrp57 : rdObj (H36 b51) o56 1 = some [Value.int .i8 ((gt a_ x33).fReturn)] := rd_part (k := 0) (m := 1) hrd54 (by omega)
    (try simp only [go_sem, ↓reduceIte, Nat.reduceEqDiff, reduceCtorEq, Nat.reduceAdd, Nat.reduceLeDiff, Nat.reduceSub, Nat.reduceMul, Int.reduceEq, Nat.reduceBEq, t42, t43, t47, hn48, hc49, hia53, hrd54, hrp57])
    cases hc58 : (!decide ((gt a_ x33).fReturn = (IntKind.i8.wrap x32))) with
    | true =>
      have h := h.1 hc58
      (try simp only [go_sem, ↓reduceIte, Nat.reduceEqDiff, reduceCtorEq, Nat.reduceAdd, Nat.reduceLeDiff, Nat.reduceSub, Nat.reduceMul, Int.reduceEq, Nat.reduceBEq, t42, t43, t47, hn48, hc49, hia53, hc58, hrd54, hrp57])
      exact retQ_r1 (by (try simp only [go_sem, ↓reduceIte, Nat.reduceEqDiff, reduceCtorEq, Nat.reduceAdd, Nat.reduceLeDiff, Nat.reduceSub, Nat.reduceMul, Int.reduceEq, Nat.reduceBEq, t42, t43, t47, hn48, hc49, hia53, hc58, hrd54, hrp57]) <;> rfl) H hL40.sub (hK _ h)
    | false =>
      have h := h.2 hc58
      have hrp59 : rdObj (H36 b51) (o56 + 1) 1 = some [Value.int .i8 ((gt a_ x33).fOrder)] := rd_part (k := 1) (m := 1) hrd54 (by omega)
      (try simp only [go_sem, ↓reduceIte, Nat.reduceEqDiff, reduceCtorEq, Nat.reduceAdd, Nat.reduceLeDiff, Nat.reduceSub, Nat.reduceMul, Int.reduceEq, Nat.reduceBEq, t42, t43, t47, hn48, hc49, hia53, hc58, hrd54, hrp57, hrp59])
      cases hc60 : (!decide ((gt a_ x33).fOrder = (IntKind.i8.wrap (IntKind.i64.wrap (x32 + 1))))) with
      | true =>
        have h := h.1 hc60
        (try simp only [go_sem, ↓reduceIte, Nat.reduceEqDiff, reduceCtorEq, Nat.reduceAdd, Nat.reduceLeDiff, Nat.reduceSub, Nat.reduceMul, Int.reduceEq, Nat.reduceBEq, t42, t43, t47, hn48, hc49, hia53, hc58, hc60, hrd54, hrp57, hrp59])
        exact retQ_r1 (by (try simp only [go_sem, ↓reduceIte, Nat.reduceEqDiff, reduceCtorEq, Nat.reduceAdd, Nat.reduceLeDiff, Nat.reduceSub, Nat.reduceMul, Int.reduceEq, Nat.reduceBEq, t42, t43, t47, hn48, hc49, hia53, hc58, hc60, hrd54, hrp57, hrp59]) <;> rfl) H hL40.sub (hK _ h)
      | false =>
        have h := h.2 hc60
        have hrp61 : rdObj (H36 b51) (o56 + 2) 1 = some [Value.int .i16 ((gt a_ x33).fNumber)] := rd_part (k := 2) (m := 1) hrd54 (by omega)
        (try simp only [go_sem, ↓reduceIte, Nat.reduceEqDiff, reduceCtorEq, Nat.reduceAdd, Nat.reduceLeDiff, Nat.reduceSub, Nat.reduceMul, Int.reduceEq, Nat.reduceBEq, t42, t43, t47, hn48, hc49, hia53, hc58, hc60, hrd54, hrp57, hrp59, hrp61])
        cases hc62 : (!decide ((gt a_ x33).fNumber = (IntKind.i16.wrap (IntKind.i64.wrap ((IntKind.i64.wrap (x32 + 1)) + 1))))) with
        | true =>
          have h := h.1 hc62
          (try simp only [go_sem, ↓reduceIte, Nat.reduceEqDiff, reduceCtorEq, Nat.reduceAdd, Nat.reduceLeDiff, Nat.reduceSub, Nat.reduceMul, Int.reduceEq, Nat.reduceBEq, t42, t43, t47, hn48, hc49, hia53, hc58, hc60, hc62, hrd54, hrp57, hrp59, hrp61])
          exact retQ_r1 (by (try simp only [go_sem, ↓reduceIte, Nat.reduceEqDiff, reduceCtorEq, Nat.reduceAdd, Nat.reduceLeDiff, Nat.reduceSub, Nat.reduceMul, Int.reduceEq, Nat.reduceBEq, t42, t43, t47, hn48, hc49, hia53, hc58, hc60, hc62, hrd54, hrp57, hrp59, hrp61]) <;> rfl) H hL40.sub (hK _ h)
        | false =>
          have h := h.2 hc62
          obtain ⟨m45, hm46, h⟩ := h
          (try simp only [go_sem, ↓reduceIte, Nat.reduceEqDiff, reduceCtorEq, Nat.reduceAdd, Nat.reduceLeDiff, Nat.reduceSub, Nat.reduceMul, Int.reduceEq, Nat.reduceBEq, t42, t43, t47, hn48, hc49, hia53, hc58, hc60, hc62, hrd54, hrp57, hrp59, hrp61])
          exact ⟨m45, H36, hm46, Hp.sub.refl _, (IntKind.i64.wrap ((IntKind.i64.wrap ((IntKind.i64.wrap (x32 + 1)) + 1)) + 1)), (IntKind.i64.wrap (x33 + 1)), h, (by (try simp only [go_sem, ↓reduceIte, Nat.reduceEqDiff, reduceCtorEq, Nat.reduceAdd, Nat.reduceLeDiff, Nat.reduceSub, Nat.reduceMul, Int.reduceEq, Nat.reduceBEq, t42, t43, t47, hn48, hc49, hia53, hc58, hc60, hc62, hrd54, hrp57, hrp59, hrp61]) <;> rfl), (by (try simp only [go_sem, ↓reduceIte, Nat.reduceEqDiff, reduceCtorEq, Nat.reduceAdd, Nat.reduceLeDiff, Nat.reduceSub, Nat.reduceMul, Int.reduceEq, Nat.reduceBEq, t42, t43, t47, hn48, hc49, hia53, hc58, hc60, hc62, hrd54, hrp57, hrp59, hrp61]) <;> rfl), hL40⟩
  | false =>
    have h := h.2 hc49
    (try simp only [go_sem, ↓reduceIte, Nat.reduceEqDiff, reduceCtorEq, Nat.reduceAdd, Nat.reduceLeDiff, Nat.reduceSub, Nat.reduceMul, Int.reduceEq, Nat.reduceBEq, t42, t43, t47, hn48, hc49])
    exact retQ_r1 (by (try simp only [go_sem, ↓reduceIte, Nat.reduceEqDiff, reduceCtorEq, Nat.reduceAdd, Nat.reduceLeDiff, Nat.reduceSub, Nat.reduceMul, Int.reduceEq, Nat.reduceBEq, t42, t43, t47, hn48, hc49]) <;> rfl) H hL40.sub (hK _ h)
def w_laws_FnExactMatchReturns (aOrders_ : (List S_Order)) (aReturns_ : (List S_Return)) (aDays_ : Int) (Q : Bool → Prop) : Prop := aOrders_.length ≤ 1152921504606846976 → aReturns_.length ≤ 1152921504606846976 → (w_laws_szOrderS aOrders_ 1048576 fun r1 => (((decide (r1 < 0)) = true → Q true) ∧ ((decide (r1 < 0)) = false → (w_laws_szReturnS aReturns_ r1 fun r4 => (((decide (r4 < 0)) = true → Q true) ∧ ((decide (r4 < 0)) = false → (w_laws_toOrderS aOrders_ fun r7 => (w_laws_toReturnS aReturns_ fun r18 => (r7.length ≤ 1152921504606846976 ∧ (r18.length ≤ 1152921504606846976 ∧ (w_spec_MatchReturns r7 r18 aDays_ fun r31 r32 => (w_laws_toOrderS aOrders_ fun r43 => (w_laws_toReturnS aReturns_ fun r54 => (r43.length ≤ 1152921504606846976 ∧ (r54.length ≤ 1152921504606846976 ∧ (w_impl_MatchReturns r43 r54 aDays_ fun r67 r68 => (r67.length ≤ 1152921504606846976 ∧ (r31.length ≤ 1152921504606846976 ∧ (w_laws_eqMatchS r67 r31 fun r81 => ((((!r81) || (!decide (r68 = r32))) = true → Q false) ∧ (((!r81) || (!decide (r68 = r32))) = false → (w_laws_toOrderS aOrders_ fun r100 => (r100.length ≤ 1152921504606846976 ∧ (w_laws_eqOrderS r43 r100 fun r112 => (((!r112) = true → Q false) ∧ ((!r112) = false → (w_laws_toReturnS aReturns_ fun r115 => (r115.length ≤ 1152921504606846976 ∧ (w_laws_eqReturnS r54 r115 fun r127 => (((!r127) = true → Q false) ∧ ((!r127) = false → (w_laws_markOrderS r43 1 fun r130 xs136 => (w_laws_markReturnS r54 r130 fun r139 xs145 => (∃ k149 : Bool → Prop, (∀ x150, k149 x150 → (((x150 || (!decide (r68 = r32))) = true → Q false) ∧ ((x150 || (!decide (r68 = r32))) = false → (w_laws_markMatchS r67 1 fun r182 xs188 => (xs188.length ≤ 1152921504606846976 ∧ (w_laws_heldMatchS xs188 1 fun r192 => (((decide (r192 < 0)) = true → Q false) ∧ ((decide (r192 < 0)) = false → (((!decide (r192 = r182)) = true → Q false) ∧ ((!decide (r192 = r182)) = false → (w_laws_toOrderS aOrders_ fun r196 => (w_laws_toReturnS aReturns_ fun r207 => (r196.length ≤ 1152921504606846976 ∧ (r207.length ≤ 1152921504606846976 ∧ (w_impl_MatchReturns r196 r207 aDays_ fun r220 r221 => (r220.length ≤ 1152921504606846976 ∧ (w_laws_eqMatchS r220 r31 fun r233 => ((((!r233) || (!decide (r221 = r32))) = true → Q false) ∧ (((!r233) || (!decide (r221 = r32))) = false → (w_laws_heldMatchS xs188 1 fun r245 => (((decide (r245 < 0)) = true → Q false) ∧ ((decide (r245 < 0)) = false → (((!decide (r245 = r182)) = true → Q false) ∧ ((!decide (r245 = r182)) = false → Q true)))))))))))))))))))))))) ∧ ((decide (r139 < 0)) = false → (w_laws_eqMatchS r67 r31 fun r151 => k149 (!r151))) ∧ ((decide (r139 < 0)) = true → k149 true)))))))))))))))))))))))))))))))))))
theorem k_laws_FnExactMatchReturns {aOrders_ : (List S_Order)} {aReturns_ : (List S_Return)} {aDays_ : Int} {Q : Bool → Prop} (h : w_laws_FnExactMatchReturns aOrders_ aReturns_ aDays_ Q) {H : Hp} {vaOrders_ : Value} (raOrders_ : SlR R_Order 5 H aOrders_ vaOrders_) {vaReturns_ : Value} (raReturns_ : SlR R_Return 4 H aReturns_ vaReturns_) {K : Value → Hp → Prop} (hK : ∀ (r0 : Bool), Q r0 → K (Value.bool r0) H) :
    ACalls Go.Proofs.Try.prog n_laws_FnExactMatchReturns #[vaOrders_, vaReturns_, Value.int .i64 aDays_] H K := by
  unfold w_laws_FnExactMatchReturns at h
  have h := h raOrders_.le
  have h := h raReturns_.le
  refine acalls_go fn_laws_FnExactMatchReturns rfl fun hl => ?_
  simp only [c_laws_FnExactMatchReturns]
  have hL := Loc.nil H
  (try simp only [go_sem, ↓reduceIte, Nat.reduceEqDiff, reduceCtorEq, Nat.reduceAdd, Nat.reduceLeDiff, Nat.reduceSub, Nat.reduceMul, Int.reduceEq, Nat.reduceBEq])
  refine aw_call (by (try simp only [go_sem, ↓reduceIte, Nat.reduceEqDiff, reduceCtorEq, Nat.reduceAdd, Nat.reduceLeDiff, Nat.reduceSub, Nat.reduceMul, Int.reduceEq, Nat.reduceBEq]) <;> rfl) (by (try simp only [go_sem, ↓reduceIte, Nat.reduceEqDiff, reduceCtorEq, Nat.reduceAdd, Nat.reduceLeDiff, Nat.reduceSub, Nat.reduceMul, Int.reduceEq, Nat.reduceBEq]) <;> rfl) (k_laws_szOrderS h (raOrders_.sub R_Order.ok hL.sub) fun r1 h => ?_)
  (try simp only [go_sem, ↓reduceIte, Nat.reduceEqDiff, reduceCtorEq, Nat.reduceAdd, Nat.reduceLeDiff, Nat.reduceSub, Nat.reduceMul, Int.reduceEq, Nat.reduceBEq])
  cases hc3 : (decide (r1 < 0)) with
  | true =>
    have h := h.1 hc3
    (try simp only [go_sem, ↓reduceIte, Nat.reduceEqDiff, reduceCtorEq, Nat.reduceAdd, Nat.reduceLeDiff, Nat.reduceSub, Nat.reduceMul, Int.reduceEq, Nat.reduceBEq, hc3])
    exact retQ_r1 (by (try simp only [go_sem, ↓reduceIte, Nat.reduceEqDiff, reduceCtorEq, Nat.reduceAdd, Nat.reduceLeDiff, Nat.reduceSub, Nat.reduceMul, Int.reduceEq, Nat.reduceBEq, hc3]) <;> rfl) H hL.sub (hK _ h)
  | false =>
    have h := h.2 hc3
    (try simp only [go_sem, ↓reduceIte, Nat.reduceEqDiff, reduceCtorEq, Nat.reduceAdd, Nat.reduceLeDiff, Nat.reduceSub, Nat.reduceMul, Int.reduceEq, Nat.reduceBEq, hc3])
    refine aw_call (by (try simp only [go_sem, ↓reduceIte, Nat.reduceEqDiff, reduceCtorEq, Nat.reduceAdd, Nat.reduceLeDiff, Nat.reduceSub, Nat.reduceMul, Int.reduceEq, Nat.reduceBEq, hc3]) <;> rfl) (by (try simp only [go_sem, ↓reduceIte, Nat.reduceEqDiff, reduceCtorEq, Nat.reduceAdd, Nat.reduceLeDiff, Nat.reduceSub, Nat.reduceMul, Int.reduceEq, Nat.reduceBEq, hc3]) <;> rfl) (k_laws_szReturnS h (raReturns_.sub R_Return.ok hL.sub) fun r4 h => ?_)
    (try simp only [go_sem, ↓reduceIte, Nat.reduceEqDiff, reduceCtorEq, Nat.reduceAdd, Nat.reduceLeDiff, Nat.reduceSub, Nat.reduceMul, Int.reduceEq, Nat.reduceBEq, hc3])
    cases hc6 : (decide (r4 < 0)) with
    | true =>
      have h := h.1 hc6
      (try simp only [go_sem, ↓reduceIte, Nat.reduceEqDiff, reduceCtorEq, Nat.reduceAdd, Nat.reduceLeDiff, Nat.reduceSub, Nat.reduceMul, Int.reduceEq, Nat.reduceBEq, hc3, hc6])
      exact retQ_r1 (by (try simp only [go_sem, ↓reduceIte, Nat.reduceEqDiff, reduceCtorEq, Nat.reduceAdd, Nat.reduceLeDiff, Nat.reduceSub, Nat.reduceMul, Int.reduceEq, Nat.reduceBEq, hc3, hc6]) <;> rfl) H hL.sub (hK _ h)
    | false =>
      have h := h.2 hc6
      (try simp only [go_sem, ↓reduceIte, Nat.reduceEqDiff, reduceCtorEq, Nat.reduceAdd, Nat.reduceLeDiff, Nat.reduceSub, Nat.reduceMul, Int.reduceEq, Nat.reduceBEq, hc3, hc6])
      refine aw_callL (by (try simp only [go_sem, ↓reduceIte, Nat.reduceEqDiff, reduceCtorEq, Nat.reduceAdd, Nat.reduceLeDiff, Nat.reduceSub, Nat.reduceMul, Int.reduceEq, Nat.reduceBEq, hc3, hc6]) <;> rfl) (by (try simp only [go_sem, ↓reduceIte, Nat.reduceEqDiff, reduceCtorEq, Nat.reduceAdd, Nat.reduceLeDiff, Nat.reduceSub, Nat.reduceMul, Int.reduceEq, Nat.reduceBEq, hc3, hc6]) <;> rfl) (k_laws_toOrderS h (raOrders_.sub R_Order.ok hL.sub) fun r7 h H9 kb13 v14 rows15 _ hL11 hr16 hl10 => ?_)
      have hL12 := hL.call hL11
      have hr16' : Rows R_Order H r7 rows15 := Rows.flat (fun _ _ hx => hx) hr16
      (try simp only [go_sem, ↓reduceIte, Nat.reduceEqDiff, reduceCtorEq, Nat.reduceAdd, Nat.reduceLeDiff, Nat.reduceSub, Nat.reduceMul, Int.reduceEq, Nat.reduceBEq, hc3, hc6])
      refine aw_callL (by (try simp only [go_sem, ↓reduceIte, Nat.reduceEqDiff, reduceCtorEq, Nat.reduceAdd, Nat.reduceLeDiff, Nat.reduceSub, Nat.reduceMul, Int.reduceEq, Nat.reduceBEq, hc3, hc6]) <;> rfl) (by (try simp only [go_sem, ↓reduceIte, Nat.reduceEqDiff, reduceCtorEq, Nat.reduceAdd, Nat.reduceLeDiff, Nat.reduceSub, Nat.reduceMul, Int.reduceEq, Nat.reduceBEq, hc3, hc6]) <;> rfl) (k_laws_toReturnS h (raReturns_.sub R_Return.ok hL12.sub) fun r18 h H20 kb24 v25 rows26 _ hL22 hr27 hl21 => ?_)
      have hL23 := hL12.call hL22
      have hr27' : Rows R_Return H r18 rows26 := Rows.flat (fun _ _ hx => hx) hr27
      obtain ⟨hle29, h⟩ := h
      obtain ⟨hle30, h⟩ := h
      (try simp only [go_sem, ↓reduceIte, Nat.reduceEqDiff, reduceCtorEq, Nat.reduceAdd, Nat.reduceLeDiff, Nat.reduceSub, Nat.reduceMul, Int.reduceEq, Nat.reduceBEq, hc3, hc6])
      refine aw_callL (by (try simp only [go_sem, ↓reduceIte, Nat.reduceEqDiff, reduceCtorEq, Nat.reduceAdd, Nat.reduceLeDiff, Nat.reduceSub, Nat.reduceMul, Int.reduceEq, Nat.reduceBEq, hc3, hc6]) <;> rfl) (by (try simp only [go_sem, ↓reduceIte, Nat.reduceEqDiff, reduceCtorEq, Nat.reduceAdd, Nat.reduceLeDiff, Nat.reduceSub, Nat.reduceMul, Int.reduceEq, Nat.reduceBEq, hc3, hc6]) <;> rfl) (k_spec_MatchReturns h (hL23.slr R_Order.ok 1 rfl hr16' hle29) (hL23.slr R_Return.ok 0 rfl hr27' hle30) fun r31 r32 h H34 kb38 v39 rows40 _ hL36 hr41 hl35 => ?_)
      have hL37 := hL23.call hL36
      have hr41' : Rows R_Match H r31 rows40 := Rows.flat (fun _ _ hx => hx) hr41
      (try simp only [go_sem, ↓reduceIte, Nat.reduceEqDiff, reduceCtorEq, Nat.reduceAdd, Nat.reduceLeDiff, Nat.reduceSub, Nat.reduceMul, Int.reduceEq, Nat.reduceBEq, hc3, hc6])
      refine aw_callL (by (try simp only [go_sem, ↓reduceIte, Nat.reduceEqDiff, reduceCtorEq, Nat.reduceAdd, Nat.reduceLeDiff, Nat.reduceSub, Nat.reduceMul, Int.reduceEq, Nat.reduceBEq, hc3, hc6]) <;> rfl) (by (try simp only [go_sem, ↓reduceIte, Nat.reduceEqDiff, reduceCtorEq, Nat.reduceAdd, Nat.reduceLeDiff, Nat.reduceSub, Nat.reduceMul, Int.reduceEq, Nat.reduceBEq, hc3, hc6]) <;> rfl) (k_laws_toOrderS h (raOrders_.sub R_Order.ok hL37.sub) fun r43 h H45 kb49 v50 rows51 _ hL47 hr52 hl46 => ?_)
      have hL48 := hL37.call hL47
      have hr52' : Rows R_Order H r43 rows51 := Rows.flat (fun _ _ hx => hx) hr52
      (try simp only [go_sem, ↓reduceIte, Nat.reduceEqDiff, reduceCtorEq, Nat.reduceAdd, Nat.reduceLeDiff, Nat.reduceSub, Nat.reduceMul, Int.reduceEq, Nat.reduceBEq, hc3, hc6])
      refine aw_callL (by (try simp only [go_sem, ↓reduceIte, Nat.reduceEqDiff, reduceCtorEq, Nat.reduceAdd, Nat.reduceLeDiff, Nat.reduceSub, Nat.reduceMul, Int.reduceEq, Nat.reduceBEq, hc3, hc6]) <;> rfl) (by (try simp only [go_sem, ↓reduceIte, Nat.reduceEqDiff, reduceCtorEq, Nat.reduceAdd, Nat.reduceLeDiff, Nat.reduceSub, Nat.reduceMul, Int.reduceEq, Nat.reduceBEq, hc3, hc6]) <;> rfl) (k_laws_toReturnS h (raReturns_.sub R_Return.ok hL48.sub) fun r54 h H56 kb60 v61 rows62 _ hL58 hr63 hl57 => ?_)
      have hL59 := hL48.call hL58
      have hr63' : Rows R_Return H r54 rows62 := Rows.flat (fun _ _ hx => hx) hr63
      obtain ⟨hle65, h⟩ := h
      obtain ⟨hle66, h⟩ := h
      (try simp only [go_sem, ↓reduceIte, Nat.reduceEqDiff, reduceCtorEq, Nat.reduceAdd, Nat.reduceLeDiff, Nat.reduceSub, Nat.reduceMul, Int.reduceEq, Nat.reduceBEq, hc3, hc6])
      refine aw_callL (by (try simp only [go_sem, ↓reduceIte, Nat.reduceEqDiff, reduceCtorEq, Nat.reduceAdd, Nat.reduceLeDiff, Nat.reduceSub, Nat.reduceMul, Int.reduceEq, Nat.reduceBEq, hc3, hc6]) <;> rfl) (by (try simp only [go_sem, ↓reduceIte, Nat.reduceEqDiff, reduceCtorEq, Nat.reduceAdd, Nat.reduceLeDiff, Nat.reduceSub, Nat.reduceMul, Int.reduceEq, Nat.reduceBEq, hc3, hc6]) <;> rfl) (k_impl_MatchReturns h (hL59.slr R_Order.ok 1 rfl hr52' hle65) (hL59.slr R_Return.ok 0 rfl hr63' hle66) fun r67 r68 h H70 kb74 v75 rows76 _ hL72 hr77 hl71 => ?_)
      have hL73 := hL59.call hL72
      have hr77' : Rows R_Match H r67 rows76 := Rows.flat (fun _ _ hx => hx) hr77
      obtain ⟨hle79, h⟩ := h
      obtain ⟨hle80, h⟩ := h
      (try simp only [go_sem, ↓reduceIte, Nat.reduceEqDiff, reduceCtorEq, Nat.reduceAdd, Nat.reduceLeDiff, Nat.reduceSub, Nat.reduceMul, Int.reduceEq, Nat.reduceBEq, hc3, hc6])
      refine aw_call (by (try simp only [go_sem, ↓reduceIte, Nat.reduceEqDiff, reduceCtorEq, Nat.reduceAdd, Nat.reduceLeDiff, Nat.reduceSub, Nat.reduceMul, Int.reduceEq, Nat.reduceBEq, hc3, hc6]) <;> rfl) (by (try simp only [go_sem, ↓reduceIte, Nat.reduceEqDiff, reduceCtorEq, Nat.reduceAdd, Nat.reduceLeDiff, Nat.reduceSub, Nat.reduceMul, Int.reduceEq, Nat.reduceBEq, hc3, hc6]) <;> rfl) (k_laws_eqMatchS h (hL73.slr R_Match.ok 0 rfl hr77' hle79) (hL73.slr R_Match.ok 3 rfl hr41' hle80) fun r81 h => ?_)
      (try simp only [go_sem, ↓reduceIte, Nat.reduceEqDiff, reduceCtorEq, Nat.reduceAdd, Nat.reduceLeDiff, Nat.reduceSub, Nat.reduceMul, Int.reduceEq, Nat.reduceBEq, hc3, hc6])
      refine aw_cut 4 (fun T' H' => T' 57 = Value.bool ((!r81) || (!decide (r68 = r32))) ∧ H' = H70) hl71 rfl ?_ (fun T84 H85 _ ho86 hj87 => ?_)
      · cases hc83 : (!r81) with
        | true =>
          simp only [opsK]
          (try simp only [go_sem, ↓reduceIte, Nat.reduceEqDiff, reduceCtorEq, Nat.reduceAdd, Nat.reduceLeDiff, Nat.reduceSub, Nat.reduceMul, Int.reduceEq, Nat.reduceBEq, hc3, hc6, hc83])
          exact ⟨by (try simp only [go_sem, ↓reduceIte, Nat.reduceEqDiff, reduceCtorEq, Nat.reduceAdd, Nat.reduceLeDiff, Nat.reduceSub, Nat.reduceMul, Int.reduceEq, Nat.reduceBEq, Bool.false_and, Bool.true_or, Bool.false_or]), rfl⟩
        | false =>
          simp only [opsK]
          (try simp only [go_sem, ↓reduceIte, Nat.reduceEqDiff, reduceCtorEq, Nat.reduceAdd, Nat.reduceLeDiff, Nat.reduceSub, Nat.reduceMul, Int.reduceEq, Nat.reduceBEq, hc3, hc6, hc83])
          exact ⟨by (try simp only [go_sem, ↓reduceIte, Nat.reduceEqDiff, reduceCtorEq, Nat.reduceAdd, Nat.reduceLeDiff, Nat.reduceSub, Nat.reduceMul, Int.reduceEq, Nat.reduceBEq, hc3, hc6, hc83, Bool.false_and, Bool.true_or, Bool.false_or]), rfl⟩
      obtain ⟨t88, hH89⟩ := hj87
      rw [hH89]
      have t90 : T84 0 = vaOrders_ := by rw [ho86.get rfl]; (try simp only [go_sem, ↓reduceIte, Nat.reduceEqDiff, reduceCtorEq, Nat.reduceAdd, Nat.reduceLeDiff, Nat.reduceSub, Nat.reduceMul, Int.reduceEq, Nat.reduceBEq, hc3, hc6])
      have t91 : T84 1 = vaReturns_ := by rw [ho86.get rfl]; (try simp only [go_sem, ↓reduceIte, Nat.reduceEqDiff, reduceCtorEq, Nat.reduceAdd, Nat.reduceLeDiff, Nat.reduceSub, Nat.reduceMul, Int.reduceEq, Nat.reduceBEq, hc3, hc6])
      have t92 : T84 2 = Value.int .i64 aDays_ := by rw [ho86.get rfl]; (try simp only [go_sem, ↓reduceIte, Nat.reduceEqDiff, reduceCtorEq, Nat.reduceAdd, Nat.reduceLeDiff, Nat.reduceSub, Nat.reduceMul, Int.reduceEq, Nat.reduceBEq, hc3, hc6])
      have t93 : T84 8 = v39 := by rw [ho86.get rfl]; (try simp only [go_sem, ↓reduceIte, Nat.reduceEqDiff, reduceCtorEq, Nat.reduceAdd, Nat.reduceLeDiff, Nat.reduceSub, Nat.reduceMul, Int.reduceEq, Nat.reduceBEq, hc3, hc6])
      have t94 : T84 9 = Value.int .i64 r32 := by rw [ho86.get rfl]; (try simp only [go_sem, ↓reduceIte, Nat.reduceEqDiff, reduceCtorEq, Nat.reduceAdd, Nat.reduceLeDiff, Nat.reduceSub, Nat.reduceMul, Int.reduceEq, Nat.reduceBEq, hc3, hc6])
      have t95 : T84 10 = v50 := by rw [ho86.get rfl]; (try simp only [go_sem, ↓reduceIte, Nat.reduceEqDiff, reduceCtorEq, Nat.reduceAdd, Nat.reduceLeDiff, Nat.reduceSub, Nat.reduceMul, Int.reduceEq, Nat.reduceBEq, hc3, hc6])
      have t96 : T84 11 = v61 := by rw [ho86.get rfl]; (try simp only [go_sem, ↓reduceIte, Nat.reduceEqDiff, reduceCtorEq, Nat.reduceAdd, Nat.reduceLeDiff, Nat.reduceSub, Nat.reduceMul, Int.reduceEq, Nat.reduceBEq, hc3, hc6])
      have t97 : T84 12 = v75 := by rw [ho86.get rfl]; (try simp only [go_sem, ↓reduceIte, Nat.reduceEqDiff, reduceCtorEq, Nat.reduceAdd, Nat.reduceLeDiff, Nat.reduceSub, Nat.reduceMul, Int.reduceEq, Nat.reduceBEq, hc3, hc6])
      have t98 : T84 13 = Value.int .i64 r68 := by rw [ho86.get rfl]; (try simp only [go_sem, ↓reduceIte, Nat.reduceEqDiff, reduceCtorEq, Nat.reduceAdd, Nat.reduceLeDiff, Nat.reduceSub, Nat.reduceMul, Int.reduceEq, Nat.reduceBEq, hc3, hc6])
      (try simp only [go_sem, ↓reduceIte, Nat.reduceEqDiff, reduceCtorEq, Nat.reduceAdd, Nat.reduceLeDiff, Nat.reduceSub, Nat.reduceMul, Int.reduceEq, Nat.reduceBEq, t90, t91, t92, t93, t94, t95, t96, t97, t98, t88, hc3, hc6])
      cases hc99 : ((!r81) || (!decide (r68 = r32))) with
      | true =>
        have h := h.1 hc99
        (try simp only [go_sem, ↓reduceIte, Nat.reduceEqDiff, reduceCtorEq, Nat.reduceAdd, Nat.reduceLeDiff, Nat.reduceSub, Nat.reduceMul, Int.reduceEq, Nat.reduceBEq, t90, t91, t92, t93, t94, t95, t96, t97, t98, t88, hc3, hc6, hc99])
        exact retQ_r1 (by (try simp only [go_sem, ↓reduceIte, Nat.reduceEqDiff, reduceCtorEq, Nat.reduceAdd, Nat.reduceLeDiff, Nat.reduceSub, Nat.reduceMul, Int.reduceEq, Nat.reduceBEq, t90, t91, t92, t93, t94, t95, t96, t97, t98, t88, hc3, hc6, hc99]) <;> rfl) H hL73.sub (hK _ h)
      | false =>
        have h := h.2 hc99
        (try simp only [go_sem, ↓reduceIte, Nat.reduceEqDiff, reduceCtorEq, Nat.reduceAdd, Nat.reduceLeDiff, Nat.reduceSub, Nat.reduceMul, Int.reduceEq, Nat.reduceBEq, t90, t91, t92, t93, t94, t95, t96, t97, t98, t88, hc3, hc6, hc99])
        refine aw_callL (by (try simp only [go_sem, ↓reduceIte, Nat.reduceEqDiff, reduceCtorEq, Nat.reduceAdd, Nat.reduceLeDiff, Nat.reduceSub, Nat.reduceMul, Int.reduceEq, Nat.reduceBEq, t90, t91, t92, t93, t94, t95, t96, t97, t98, t88, hc3, hc6, hc99]) <;> rfl) (by (try simp only [go_sem, ↓reduceIte, Nat.reduceEqDiff, reduceCtorEq, Nat.reduceAdd, Nat.reduceLeDiff, Nat.reduceSub, Nat.reduceMul, Int.reduceEq, Nat.reduceBEq, t90, t91, t92, t93, t94, t95, t96, t97, t98, t88, hc3, hc6, hc99]) <;> rfl) (k_laws_toOrderS h (raOrders_.sub R_Order.ok hL73.sub) fun r100 h H102 kb106 v107 rows108 _ hL104 hr109 hl103 => ?_)
        have hL105 := hL73.call hL104
        have hr109' : Rows R_Order H r100 rows108 := Rows.flat (fun _ _ hx => hx) hr109
        obtain ⟨hle111, h⟩ := h
        (try simp only [go_sem, ↓reduceIte, Nat.reduceEqDiff, reduceCtorEq, Nat.reduceAdd, Nat.reduceLeDiff, Nat.reduceSub, Nat.reduceMul, Int.reduceEq, Nat.reduceBEq, t90, t91, t92, t93, t94, t95, t96, t97, t98, t88, hc3, hc6, hc99])
        refine aw_call (by (try simp only [go_sem, ↓reduceIte, Nat.reduceEqDiff, reduceCtorEq, Nat.reduceAdd, Nat.reduceLeDiff, Nat.reduceSub, Nat.reduceMul, Int.reduceEq, Nat.reduceBEq, t90, t91, t92, t93, t94, t95, t96, t97, t98, t88, hc3, hc6, hc99]) <;> rfl) (by (try simp only [go_sem, ↓reduceIte, Nat.reduceEqDiff, reduceCtorEq, Nat.reduceAdd, Nat.reduceLeDiff, Nat.reduceSub, Nat.reduceMul, Int.reduceEq, Nat.reduceBEq, t90, t91, t92, t93, t94, t95, t96, t97, t98, t88, hc3, hc6, hc99]) <;> rfl) (k_laws_eqOrderS h (hL105.slr R_Order.ok 3 rfl hr52' hle65) (hL105.slr R_Order.ok 0 rfl hr109' hle111) fun r112 h => ?_)
        (try simp only [go_sem, ↓reduceIte, Nat.reduceEqDiff, reduceCtorEq, Nat.reduceAdd, Nat.reduceLeDiff, Nat.reduceSub, Nat.reduceMul, Int.reduceEq, Nat.reduceBEq, t90, t91, t92, t93, t94, t95, t96, t97, t98, t88, hc3, hc6, hc99])
        cases hc114 : (!r112) with
        | true =>
          have h := h.1 hc114
          (try simp only [go_sem, ↓reduceIte, Nat.reduceEqDiff, reduceCtorEq, Nat.reduceAdd, Nat.reduceLeDiff, Nat.reduceSub, Nat.reduceMul, Int.reduceEq, Nat.reduceBEq, t90, t91, t92, t93, t94, t95, t96, t97, t98, t88, hc3, hc6, hc99, hc114])
          exact retQ_r1 (by (try simp only [go_sem, ↓reduceIte, Nat.reduceEqDiff, reduceCtorEq, Nat.reduceAdd, Nat.reduceLeDiff, Nat.reduceSub, Nat.reduceMul, Int.reduceEq, Nat.reduceBEq, t90, t91, t92, t93, t94, t95, t96, t97, t98, t88, hc3, hc6, hc99, hc114]) <;> rfl) H hL105.sub (hK _ h)
        | false =>
          have h := h.2 hc114
          (try simp only [go_sem, ↓reduceIte, Nat.reduceEqDiff, reduceCtorEq, Nat.reduceAdd, Nat.reduceLeDiff, Nat.reduceSub, Nat.reduceMul, Int.reduceEq, Nat.reduceBEq, t90, t91, t92, t93, t94, t95, t96, t97, t98, t88, hc3, hc6, hc99, hc114])
          refine aw_callL (by (try simp only [go_sem, ↓reduceIte, Nat.reduceEqDiff, reduceCtorEq, Nat.reduceAdd, Nat.reduceLeDiff, Nat.reduceSub, Nat.reduceMul, Int.reduceEq, Nat.reduceBEq, t90, t91, t92, t93, t94, t95, t96, t97, t98, t88, hc3, hc6, hc99, hc114]) <;> rfl) (by (try simp only [go_sem, ↓reduceIte, Nat.reduceEqDiff, reduceCtorEq, Nat.reduceAdd, Nat.reduceLeDiff, Nat.reduceSub, Nat.reduceMul, Int.reduceEq, Nat.reduceBEq, t90, t91, t92, t93, t94, t95, t96, t97, t98, t88, hc3, hc6, hc99, hc114]) <;> rfl) (k_laws_toReturnS h (raReturns_.sub R_Return.ok hL105.sub) fun r115 h H117 kb121 v122 rows123 _ hL119 hr124 hl118 => ?_)
          have hL120 := hL105.call hL119
          have hr124' : Rows R_Return H r115 rows123 := Rows.flat (fun _ _ hx => hx) hr124
          obtain ⟨hle126, h⟩ := h
          (try simp only [go_sem, ↓reduceIte, Nat.reduceEqDiff, reduceCtorEq, Nat.reduceAdd, Nat.reduceLeDiff, Nat.reduceSub, Nat.reduceMul, Int.reduceEq, Nat.reduceBEq, t90, t91, t92, t93, t94, t95, t96, t97, t98, t88, hc3, hc6, hc99, hc114])
          refine aw_call (by (try simp only [go_sem, ↓reduceIte, Nat.reduceEqDiff, reduceCtorEq, Nat.reduceAdd, Nat.reduceLeDiff, Nat.reduceSub, Nat.reduceMul, Int.reduceEq, Nat.reduceBEq, t90, t91, t92, t93, t94, t95, t96, t97, t98, t88, hc3, hc6, hc99, hc114]) <;> rfl) (by (try simp only [go_sem, ↓reduceIte, Nat.reduceEqDiff, reduceCtorEq, Nat.reduceAdd, Nat.reduceLeDiff, Nat.reduceSub, Nat.reduceMul, Int.reduceEq, Nat.reduceBEq, t90, t91, t92, t93, t94, t95, t96, t97, t98, t88, hc3, hc6, hc99, hc114]) <;> rfl) (k_laws_eqReturnS h (hL120.slr R_Return.ok 3 rfl hr63' hle66) (hL120.slr R_Return.ok 0 rfl hr124' hle126) fun r127 h => ?_)
          (try simp only [go_sem, ↓reduceIte, Nat.reduceEqDiff, reduceCtorEq, Nat.reduceAdd, Nat.reduceLeDiff, Nat.reduceSub, Nat.reduceMul, Int.reduceEq, Nat.reduceBEq, t90, t91, t92, t93, t94, t95, t96, t97, t98, t88, hc3, hc6, hc99, hc114])
          cases hc129 : (!r127) with
          | true =>
            have h := h.1 hc129
            (try simp only [go_sem, ↓reduceIte, Nat.reduceEqDiff, reduceCtorEq, Nat.reduceAdd, Nat.reduceLeDiff, Nat.reduceSub, Nat.reduceMul, Int.reduceEq, Nat.reduceBEq, t90, t91, t92, t93, t94, t95, t96, t97, t98, t88, hc3, hc6, hc99, hc114, hc129])
            exact retQ_r1 (by (try simp only [go_sem, ↓reduceIte, Nat.reduceEqDiff, reduceCtorEq, Nat.reduceAdd, Nat.reduceLeDiff, Nat.reduceSub, Nat.reduceMul, Int.reduceEq, Nat.reduceBEq, t90, t91, t92, t93, t94, t95, t96, t97, t98, t88, hc3, hc6, hc99, hc114, hc129]) <;> rfl) H hL120.sub (hK _ h)
          | false =>
            have h := h.2 hc129
            (try simp only [go_sem, ↓reduceIte, Nat.reduceEqDiff, reduceCtorEq, Nat.reduceAdd, Nat.reduceLeDiff, Nat.reduceSub, Nat.reduceMul, Int.reduceEq, Nat.reduceBEq, t90, t91, t92, t93, t94, t95, t96, t97, t98, t88, hc3, hc6, hc99, hc114, hc129])
            refine aw_callL (by (try simp only [go_sem, ↓reduceIte, Nat.reduceEqDiff, reduceCtorEq, Nat.reduceAdd, Nat.reduceLeDiff, Nat.reduceSub, Nat.reduceMul, Int.reduceEq, Nat.reduceBEq, t90, t91, t92, t93, t94, t95, t96, t97, t98, t88, hc3, hc6, hc99, hc114, hc129]) <;> rfl) (by (try simp only [go_sem, ↓reduceIte, Nat.reduceEqDiff, reduceCtorEq, Nat.reduceAdd, Nat.reduceLeDiff, Nat.reduceSub, Nat.reduceMul, Int.reduceEq, Nat.reduceBEq, t90, t91, t92, t93, t94, t95, t96, t97, t98, t88, hc3, hc6, hc99, hc114, hc129]) <;> rfl) (k_laws_markOrderS h rfl (hL120.get 4 rfl) (Rows.flat (fun _ _ hx => hx) hr52') fun r130 xs136 h H132  rows137 _ hL134  hr138 hl133 => ?_)
            have hL135 := hL120.back 4 rfl (L' := []) hL134
            have hr138' : Rows R_Order H xs136 rows137 := Rows.flat (fun _ _ hx => hx) hr138
            (try simp only [go_sem, ↓reduceIte, Nat.reduceEqDiff, reduceCtorEq, Nat.reduceAdd, Nat.reduceLeDiff, Nat.reduceSub, Nat.reduceMul, Int.reduceEq, Nat.reduceBEq, t90, t91, t92, t93, t94, t95, t96, t97, t98, t88, hc3, hc6, hc99, hc114, hc129])
            refine aw_callL (by (try simp only [go_sem, ↓reduceIte, Nat.reduceEqDiff, reduceCtorEq, Nat.reduceAdd, Nat.reduceLeDiff, Nat.reduceSub, Nat.reduceMul, Int.reduceEq, Nat.reduceBEq, t90, t91, t92, t93, t94, t95, t96, t97, t98, t88, hc3, hc6, hc99, hc114, hc129]) <;> rfl) (by (try simp only [go_sem, ↓reduceIte, Nat.reduceEqDiff, reduceCtorEq, Nat.reduceAdd, Nat.reduceLeDiff, Nat.reduceSub, Nat.reduceMul, Int.reduceEq, Nat.reduceBEq, t90, t91, t92, t93, t94, t95, t96, t97, t98, t88, hc3, hc6, hc99, hc114, hc129]) <;> rfl) (k_laws_markReturnS h rfl (hL135.get 3 rfl) (Rows.flat (fun _ _ hx => hx) hr63') fun r139 xs145 h H141  rows146 _ hL143  hr147 hl142 => ?_)
            have hL144 := hL135.back 3 rfl (L' := []) hL143
            have hr147' : Rows R_Return H xs145 rows146 := Rows.flat (fun _ _ hx => hx) hr147
            (try simp only [go_sem, ↓reduceIte, Nat.reduceEqDiff, reduceCtorEq, Nat.reduceAdd, Nat.reduceLeDiff, Nat.reduceSub, Nat.reduceMul, Int.reduceEq, Nat.reduceBEq, t90, t91, t92, t93, t94, t95, t96, t97, t98, t88, hc3, hc6, hc99, hc114, hc129])
            obtain ⟨k149, hk153, hk149, h154⟩ := h
            refine aw_cut 5 (fun T' H' => ∃ x150, k149 x150 ∧ T' 81 = Value.bool x150 ∧ H' = H141) hl142 rfl ?_ (fun T155 H156 _ ho157 hj158 => ?_)
            · cases hc148 : (decide (r139 < 0)) with
              | true =>
                simp only [opsK]
                (try simp only [go_sem, ↓reduceIte, Nat.reduceEqDiff, reduceCtorEq, Nat.reduceAdd, Nat.reduceLeDiff, Nat.reduceSub, Nat.reduceMul, Int.reduceEq, Nat.reduceBEq, t90, t91, t92, t93, t94, t95, t96, t97, t98, t88, hc3, hc6, hc99, hc114, hc129, hc148])
                exact ⟨true, h154 hc148, by (try simp only [go_sem, ↓reduceIte, Nat.reduceEqDiff, reduceCtorEq, Nat.reduceAdd, Nat.reduceLeDiff, Nat.reduceSub, Nat.reduceMul, Int.reduceEq, Nat.reduceBEq]), rfl⟩
              | false =>
                simp only [opsK]
                have h := hk149 hc148
                (try simp only [go_sem, ↓reduceIte, Nat.reduceEqDiff, reduceCtorEq, Nat.reduceAdd, Nat.reduceLeDiff, Nat.reduceSub, Nat.reduceMul, Int.reduceEq, Nat.reduceBEq, t90, t91, t92, t93, t94, t95, t96, t97, t98, t88, hc3, hc6, hc99, hc114, hc129, hc148])
                refine aw_call (by (try simp only [go_sem, ↓reduceIte, Nat.reduceEqDiff, reduceCtorEq, Nat.reduceAdd, Nat.reduceLeDiff, Nat.reduceSub, Nat.reduceMul, Int.reduceEq, Nat.reduceBEq, t90, t91, t92, t93, t94, t95, t96, t97, t98, t88, hc3, hc6, hc99, hc114, hc129, hc148]) <;> rfl) (by (try simp only [go_sem, ↓reduceIte, Nat.reduceEqDiff, reduceCtorEq, Nat.reduceAdd, Nat.reduceLeDiff, Nat.reduceSub, Nat.reduceMul, Int.reduceEq, Nat.reduceBEq, t90, t91, t92, t93, t94, t95, t96, t97, t98, t88, hc3, hc6, hc99, hc114, hc129, hc148]) <;> rfl) (k_laws_eqMatchS h (hL144.slr R_Match.ok 2 rfl hr77' hle79) (hL144.slr R_Match.ok 5 rfl hr41' hle80) fun r151 h => ?_)
                (try simp only [go_sem, ↓reduceIte, Nat.reduceEqDiff, reduceCtorEq, Nat.reduceAdd, Nat.reduceLeDiff, Nat.reduceSub, Nat.reduceMul, Int.reduceEq, Nat.reduceBEq, t90, t91, t92, t93, t94, t95, t96, t97, t98, t88, hc3, hc6, hc99, hc114, hc129, hc148])
                exact ⟨(!r151), h, by (try simp only [go_sem, ↓reduceIte, Nat.reduceEqDiff, reduceCtorEq, Nat.reduceAdd, Nat.reduceLeDiff, Nat.reduceSub, Nat.reduceMul, Int.reduceEq, Nat.reduceBEq, t90, t91, t92, t93, t94, t95, t96, t97, t98, t88, hc3, hc6, hc99, hc114, hc129, hc148]), rfl⟩
            obtain ⟨x150, h, t159, hH160⟩ := hj158
            rw [hH160]
            have h := hk153 x150 h
            have t161 : T155 0 = vaOrders_ := by rw [ho157.get rfl]; (try simp only [go_sem, ↓reduceIte, Nat.reduceEqDiff, reduceCtorEq, Nat.reduceAdd, Nat.reduceLeDiff, Nat.reduceSub, Nat.reduceMul, Int.reduceEq, Nat.reduceBEq, t90, t91, t92, t93, t94, t95, t96, t97, t98, t88, hc3, hc6, hc99, hc114, hc129])
            have t162 : T155 1 = vaReturns_ := by rw [ho157.get rfl]; (try simp only [go_sem, ↓reduceIte, Nat.reduceEqDiff, reduceCtorEq, Nat.reduceAdd, Nat.reduceLeDiff, Nat.reduceSub, Nat.reduceMul, Int.reduceEq, Nat.reduceBEq, t90, t91, t92, t93, t94, t95, t96, t97, t98, t88, hc3, hc6, hc99, hc114, hc129])
            have t163 : T155 2 = Value.int .i64 aDays_ := by rw [ho157.get rfl]; (try simp only [go_sem, ↓reduceIte, Nat.reduceEqDiff, reduceCtorEq, Nat.reduceAdd, Nat.reduceLeDiff, Nat.reduceSub, Nat.reduceMul, Int.reduceEq, Nat.reduceBEq, t90, t91, t92, t93, t94, t95, t96, t97, t98, t88, hc3, hc6, hc99, hc114, hc129])
            have t164 : T155 8 = v39 := by rw [ho157.get rfl]; (try simp only [go_sem, ↓reduceIte, Nat.reduceEqDiff, reduceCtorEq, Nat.reduceAdd, Nat.reduceLeDiff, Nat.reduceSub, Nat.reduceMul, Int.reduceEq, Nat.reduceBEq, t90, t91, t92, t93, t94, t95, t96, t97, t98, t88, hc3, hc6, hc99, hc114, hc129])
            have t165 : T155 9 = Value.int .i64 r32 := by rw [ho157.get rfl]; (try simp only [go_sem, ↓reduceIte, Nat.reduceEqDiff, reduceCtorEq, Nat.reduceAdd, Nat.reduceLeDiff, Nat.reduceSub, Nat.reduceMul, Int.reduceEq, Nat.reduceBEq, t90, t91, t92, t93, t94, t95, t96, t97, t98, t88, hc3, hc6, hc99, hc114, hc129])
            have t166 : T155 12 = v75 := by rw [ho157.get rfl]; (try simp only [go_sem, ↓reduceIte, Nat.reduceEqDiff, reduceCtorEq, Nat.reduceAdd, Nat.reduceLeDiff, Nat.reduceSub, Nat.reduceMul, Int.reduceEq, Nat.reduceBEq, t90, t91, t92, t93, t94, t95, t96, t97, t98, t88, hc3, hc6, hc99, hc114, hc129])
            have t167 : T155 13 = Value.int .i64 r68 := by rw [ho157.get rfl]; (try simp only [go_sem, ↓reduceIte, Nat.reduceEqDiff, reduceCtorEq, Nat.reduceAdd, Nat.reduceLeDiff, Nat.reduceSub, Nat.reduceMul, Int.reduceEq, Nat.reduceBEq, t90, t91, t92, t93, t94, t95, t96, t97, t98, t88, hc3, hc6, hc99, hc114, hc129])
            (try simp only [go_sem, ↓reduceIte, Nat.reduceEqDiff, reduceCtorEq, Nat.reduceAdd, Nat.reduceLeDiff, Nat.reduceSub, Nat.reduceMul, Int.reduceEq, Nat.reduceBEq, t161, t162, t163, t164, t165, t166, t167, t159, hc3, hc6, hc99, hc114, hc129])
            refine aw_cut 4 (fun T' H' => T' 86 = Value.bool (x150 || (!decide (r68 = r32))) ∧ H' = H141) hl142 rfl ?_ (fun T169 H170 _ ho171 hj172 => ?_)
            · cases hc168 : x150 with
              | true =>
                simp only [opsK]
                (try simp only [go_sem, ↓reduceIte, Nat.reduceEqDiff, reduceCtorEq, Nat.reduceAdd, Nat.reduceLeDiff, Nat.reduceSub, Nat.reduceMul, Int.reduceEq, Nat.reduceBEq, t161, t162, t163, t164, t165, t166, t167, t159, hc3, hc6, hc99, hc114, hc129, hc168])
                exact ⟨by (try simp only [go_sem, ↓reduceIte, Nat.reduceEqDiff, reduceCtorEq, Nat.reduceAdd, Nat.reduceLeDiff, Nat.reduceSub, Nat.reduceMul, Int.reduceEq, Nat.reduceBEq, Bool.false_and, Bool.true_or, Bool.false_or]), rfl⟩
              | false =>
                simp only [opsK]
                (try simp only [go_sem, ↓reduceIte, Nat.reduceEqDiff, reduceCtorEq, Nat.reduceAdd, Nat.reduceLeDiff, Nat.reduceSub, Nat.reduceMul, Int.reduceEq, Nat.reduceBEq, t161, t162, t163, t164, t165, t166, t167, t159, hc3, hc6, hc99, hc114, hc129, hc168])
                exact ⟨by (try simp only [go_sem, ↓reduceIte, Nat.reduceEqDiff, reduceCtorEq, Nat.reduceAdd, Nat.reduceLeDiff, Nat.reduceSub, Nat.reduceMul, Int.reduceEq, Nat.reduceBEq, t161, t162, t163, t164, t165, t166, t167, t159, hc3, hc6, hc99, hc114, hc129, hc168, Bool.false_and, Bool.true_or, Bool.false_or]), rfl⟩
            obtain ⟨t173, hH174⟩ := hj172
            rw [hH174]
            have t175 : T169 0 = vaOrders_ := by rw [ho171.get rfl]; (try simp only [go_sem, ↓reduceIte, Nat.reduceEqDiff, reduceCtorEq, Nat.reduceAdd, Nat.reduceLeDiff, Nat.reduceSub, Nat.reduceMul, Int.reduceEq, Nat.reduceBEq, t161, t162, t163, t164, t165, t166, t167, t159, hc3, hc6, hc99, hc114, hc129])
            have t176 : T169 1 = vaReturns_ := by rw [ho171.get rfl]; (try simp only [go_sem, ↓reduceIte, Nat.reduceEqDiff, reduceCtorEq, Nat.reduceAdd, Nat.reduceLeDiff, Nat.reduceSub, Nat.reduceMul, Int.reduceEq, Nat.reduceBEq, t161, t162, t163, t164, t165, t166, t167, t159, hc3, hc6, hc99, hc114, hc129])
            have t177 : T169 2 = Value.int .i64 aDays_ := by rw [ho171.get rfl]; (try simp only [go_sem, ↓reduceIte, Nat.reduceEqDiff, reduceCtorEq, Nat.reduceAdd, Nat.reduceLeDiff, Nat.reduceSub, Nat.reduceMul, Int.reduceEq, Nat.reduceBEq, t161, t162, t163, t164, t165, t166, t167, t159, hc3, hc6, hc99, hc114, hc129])
            have t178 : T169 8 = v39 := by rw [ho171.get rfl]; (try simp only [go_sem, ↓reduceIte, Nat.reduceEqDiff, reduceCtorEq, Nat.reduceAdd, Nat.reduceLeDiff, Nat.reduceSub, Nat.reduceMul, Int.reduceEq, Nat.reduceBEq, t161, t162, t163, t164, t165, t166, t167, t159, hc3, hc6, hc99, hc114, hc129])
            have t179 : T169 9 = Value.int .i64 r32 := by rw [ho171.get rfl]; (try simp only [go_sem, ↓reduceIte, Nat.reduceEqDiff, reduceCtorEq, Nat.reduceAdd, Nat.reduceLeDiff, Nat.reduceSub, Nat.reduceMul, Int.reduceEq, Nat.reduceBEq, t161, t162, t163, t164, t165, t166, t167, t159, hc3, hc6, hc99, hc114, hc129])
            have t180 : T169 12 = v75 := by rw [ho171.get rfl]; (try simp only [go_sem, ↓reduceIte, Nat.reduceEqDiff, reduceCtorEq, Nat.reduceAdd, Nat.reduceLeDiff, Nat.reduceSub, Nat.reduceMul, Int.reduceEq, Nat.reduceBEq, t161, t162, t163, t164, t165, t166, t167, t159, hc3, hc6, hc99, hc114, hc129])
            (try simp only [go_sem, ↓reduceIte, Nat.reduceEqDiff, reduceCtorEq, Nat.reduceAdd, Nat.reduceLeDiff, Nat.reduceSub, Nat.reduceMul, Int.reduceEq, Nat.reduceBEq, t175, t176, t177, t178, t179, t180, t173, hc3, hc6, hc99, hc114, hc129])
            cases hc181 : (x150 || (!decide (r68 = r32))) with
            | true =>
              have h := h.1 hc181
              (try simp only [go_sem, ↓reduceIte, Nat.reduceEqDiff, reduceCtorEq, Nat.reduceAdd, Nat.reduceLeDiff, Nat.reduceSub, Nat.reduceMul, Int.reduceEq, Nat.reduceBEq, t175, t176, t177, t178, t179, t180, t173, hc3, hc6, hc99, hc114, hc129, hc181])
              exact retQ_r1 (by (try simp only [go_sem, ↓reduceIte, Nat.reduceEqDiff, reduceCtorEq, Nat.reduceAdd, Nat.reduceLeDiff, Nat.reduceSub, Nat.reduceMul, Int.reduceEq, Nat.reduceBEq, t175, t176, t177, t178, t179, t180, t173, hc3, hc6, hc99, hc114, hc129, hc181]) <;> rfl) H hL144.sub (hK _ h)
            | false =>
              have h := h.2 hc181
              (try simp only [go_sem, ↓reduceIte, Nat.reduceEqDiff, reduceCtorEq, Nat.reduceAdd, Nat.reduceLeDiff, Nat.reduceSub, Nat.reduceMul, Int.reduceEq, Nat.reduceBEq, t175, t176, t177, t178, t179, t180, t173, hc3, hc6, hc99, hc114, hc129, hc181])
              refine aw_callL (by (try simp only [go_sem, ↓reduceIte, Nat.reduceEqDiff, reduceCtorEq, Nat.reduceAdd, Nat.reduceLeDiff, Nat.reduceSub, Nat.reduceMul, Int.reduceEq, Nat.reduceBEq, t175, t176, t177, t178, t179, t180, t173, hc3, hc6, hc99, hc114, hc129, hc181]) <;> rfl) (by (try simp only [go_sem, ↓reduceIte, Nat.reduceEqDiff, reduceCtorEq, Nat.reduceAdd, Nat.reduceLeDiff, Nat.reduceSub, Nat.reduceMul, Int.reduceEq, Nat.reduceBEq, t175, t176, t177, t178, t179, t180, t173, hc3, hc6, hc99, hc114, hc129, hc181]) <;> rfl) (k_laws_markMatchS h rfl (hL144.get 2 rfl) (Rows.flat (fun _ _ hx => hx) hr77') fun r182 xs188 h H184  rows189 _ hL186  hr190 hl185 => ?_)
              have hL187 := hL144.back 2 rfl (L' := []) hL186
              have hr190' : Rows R_Match H xs188 rows189 := Rows.flat (fun _ _ hx => hx) hr190
              obtain ⟨hle191, h⟩ := h
              (try simp only [go_sem, ↓reduceIte, Nat.reduceEqDiff, reduceCtorEq, Nat.reduceAdd, Nat.reduceLeDiff, Nat.reduceSub, Nat.reduceMul, Int.reduceEq, Nat.reduceBEq, t175, t176, t177, t178, t179, t180, t173, hc3, hc6, hc99, hc114, hc129, hc181])
              refine aw_call (by (try simp only [go_sem, ↓reduceIte, Nat.reduceEqDiff, reduceCtorEq, Nat.reduceAdd, Nat.reduceLeDiff, Nat.reduceSub, Nat.reduceMul, Int.reduceEq, Nat.reduceBEq, t175, t176, t177, t178, t179, t180, t173, hc3, hc6, hc99, hc114, hc129, hc181]) <;> rfl) (by (try simp only [go_sem, ↓reduceIte, Nat.reduceEqDiff, reduceCtorEq, Nat.reduceAdd, Nat.reduceLeDiff, Nat.reduceSub, Nat.reduceMul, Int.reduceEq, Nat.reduceBEq, t175, t176, t177, t178, t179, t180, t173, hc3, hc6, hc99, hc114, hc129, hc181]) <;> rfl) (k_laws_heldMatchS h (hL187.slr R_Match.ok 2 rfl hr190' hle191) fun r192 h => ?_)
              (try simp only [go_sem, ↓reduceIte, Nat.reduceEqDiff, reduceCtorEq, Nat.reduceAdd, Nat.reduceLeDiff, Nat.reduceSub, Nat.reduceMul, Int.reduceEq, Nat.reduceBEq, t175, t176, t177, t178, t179, t180, t173, hc3, hc6, hc99, hc114, hc129, hc181])
              cases hc194 : (decide (r192 < 0)) with
              | true =>
                have h := h.1 hc194
                (try simp only [go_sem, ↓reduceIte, Nat.reduceEqDiff, reduceCtorEq, Nat.reduceAdd, Nat.reduceLeDiff, Nat.reduceSub, Nat.reduceMul, Int.reduceEq, Nat.reduceBEq, t175, t176, t177, t178, t179, t180, t173, hc3, hc6, hc99, hc114, hc129, hc181, hc194])
                exact retQ_r1 (by (try simp only [go_sem, ↓reduceIte, Nat.reduceEqDiff, reduceCtorEq, Nat.reduceAdd, Nat.reduceLeDiff, Nat.reduceSub, Nat.reduceMul, Int.reduceEq, Nat.reduceBEq, t175, t176, t177, t178, t179, t180, t173, hc3, hc6, hc99, hc114, hc129, hc181, hc194]) <;> rfl) H hL187.sub (hK _ h)
              | false =>
                have h := h.2 hc194
                (try simp only [go_sem, ↓reduceIte, Nat.reduceEqDiff, reduceCtorEq, Nat.reduceAdd, Nat.reduceLeDiff, Nat.reduceSub, Nat.reduceMul, Int.reduceEq, Nat.reduceBEq, t175, t176, t177, t178, t179, t180, t173, hc3, hc6, hc99, hc114, hc129, hc181, hc194])
                cases hc195 : (!decide (r192 = r182)) with
                | true =>
                  have h := h.1 hc195
                  (try simp only [go_sem, ↓reduceIte, Nat.reduceEqDiff, reduceCtorEq, Nat.reduceAdd, Nat.reduceLeDiff, Nat.reduceSub, Nat.reduceMul, Int.reduceEq, Nat.reduceBEq, t175, t176, t177, t178, t179, t180, t173, hc3, hc6, hc99, hc114, hc129, hc181, hc194, hc195])
                  exact retQ_r1 (by (try simp only [go_sem, ↓reduceIte, Nat.reduceEqDiff, reduceCtorEq, Nat.reduceAdd, Nat.reduceLeDiff, Nat.reduceSub, Nat.reduceMul, Int.reduceEq, Nat.reduceBEq, t175, t176, t177, t178, t179, t180, t173, hc3, hc6, hc99, hc114, hc129, hc181, hc194, hc195]) <;> rfl) H hL187.sub (hK _ h)
                | false =>
                  have h := h.2 hc195
                  (try simp only [go_sem, ↓reduceIte, Nat.reduceEqDiff, reduceCtorEq, Nat.reduceAdd, Nat.reduceLeDiff, Nat.reduceSub, Nat.reduceMul, Int.reduceEq, Nat.reduceBEq, t175, t176, t177, t178, t179, t180, t173, hc3, hc6, hc99, hc114, hc129, hc181, hc194, hc195])
                  refine aw_callL (by (try simp only [go_sem, ↓reduceIte, Nat.reduceEqDiff, reduceCtorEq, Nat.reduceAdd, Nat.reduceLeDiff, Nat.reduceSub, Nat.reduceMul, Int.reduceEq, Nat.reduceBEq, t175, t176, t177, t178, t179, t180, t173, hc3, hc6, hc99, hc114, hc129, hc181, hc194, hc195]) <;> rfl) (by (try simp only [go_sem, ↓reduceIte, Nat.reduceEqDiff, reduceCtorEq, Nat.reduceAdd, Nat.reduceLeDiff, Nat.reduceSub, Nat.reduceMul, Int.reduceEq, Nat.reduceBEq, t175, t176, t177, t178, t179, t180, t173, hc3, hc6, hc99, hc114, hc129, hc181, hc194, hc195]) <;> rfl) (k_laws_toOrderS h (raOrders_.sub R_Order.ok hL187.sub) fun r196 h H198 kb202 v203 rows204 _ hL200 hr205 hl199 => ?_)
                  have hL201 := hL187.call hL200
                  have hr205' : Rows R_Order H r196 rows204 := Rows.flat (fun _ _ hx => hx) hr205
                  (try simp only [go_sem, ↓reduceIte, Nat.reduceEqDiff, reduceCtorEq, Nat.reduceAdd, Nat.reduceLeDiff, Nat.reduceSub, Nat.reduceMul, Int.reduceEq, Nat.reduceBEq, t175, t176, t177, t178, t179, t180, t173, hc3, hc6, hc99, hc114, hc129, hc181, hc194, hc195])
                  refine aw_callL (by (try simp only [go_sem, ↓reduceIte, Nat.reduceEqDiff, reduceCtorEq, Nat.reduceAdd, Nat.reduceLeDiff, Nat.reduceSub, Nat.reduceMul, Int.reduceEq, Nat.reduceBEq, t175, t176, t177, t178, t179, t180, t173, hc3, hc6, hc99, hc114, hc129, hc181, hc194, hc195]) <;> rfl) (by (try simp only [go_sem, ↓reduceIte, Nat.reduceEqDiff, reduceCtorEq, Nat.reduceAdd, Nat.reduceLeDiff, Nat.reduceSub, Nat.reduceMul, Int.reduceEq, Nat.reduceBEq, t175, t176, t177, t178, t179, t180, t173, hc3, hc6, hc99, hc114, hc129, hc181, hc194, hc195]) <;> rfl) (k_laws_toReturnS h (raReturns_.sub R_Return.ok hL201.sub) fun r207 h H209 kb213 v214 rows215 _ hL211 hr216 hl210 => ?_)
                  have hL212 := hL201.call hL211
                  have hr216' : Rows R_Return H r207 rows215 := Rows.flat (fun _ _ hx => hx) hr216
                  obtain ⟨hle218, h⟩ := h
                  obtain ⟨hle219, h⟩ := h
                  (try simp only [go_sem, ↓reduceIte, Nat.reduceEqDiff, reduceCtorEq, Nat.reduceAdd, Nat.reduceLeDiff, Nat.reduceSub, Nat.reduceMul, Int.reduceEq, Nat.reduceBEq, t175, t176, t177, t178, t179, t180, t173, hc3, hc6, hc99, hc114, hc129, hc181, hc194, hc195])
                  refine aw_callL (by (try simp only [go_sem, ↓reduceIte, Nat.reduceEqDiff, reduceCtorEq, Nat.reduceAdd, Nat.reduceLeDiff, Nat.reduceSub, Nat.reduceMul, Int.reduceEq, Nat.reduceBEq, t175, t176, t177, t178, t179, t180, t173, hc3, hc6, hc99, hc114, hc129, hc181, hc194, hc195]) <;> rfl) (by (try simp only [go_sem, ↓reduceIte, Nat.reduceEqDiff, reduceCtorEq, Nat.reduceAdd, Nat.reduceLeDiff, Nat.reduceSub, Nat.reduceMul, Int.reduceEq, Nat.reduceBEq, t175, t176, t177, t178, t179, t180, t173, hc3, hc6, hc99, hc114, hc129, hc181, hc194, hc195]) <;> rfl) (k_impl_MatchReturns h (hL212.slr R_Order.ok 1 rfl hr205' hle218) (hL212.slr R_Return.ok 0 rfl hr216' hle219) fun r220 r221 h H223 kb227 v228 rows229 _ hL225 hr230 hl224 => ?_)
                  have hL226 := hL212.call hL225
                  have hr230' : Rows R_Match H r220 rows229 := Rows.flat (fun _ _ hx => hx) hr230
                  obtain ⟨hle232, h⟩ := h
                  (try simp only [go_sem, ↓reduceIte, Nat.reduceEqDiff, reduceCtorEq, Nat.reduceAdd, Nat.reduceLeDiff, Nat.reduceSub, Nat.reduceMul, Int.reduceEq, Nat.reduceBEq, t175, t176, t177, t178, t179, t180, t173, hc3, hc6, hc99, hc114, hc129, hc181, hc194, hc195])
                  refine aw_call (by (try simp only [go_sem, ↓reduceIte, Nat.reduceEqDiff, reduceCtorEq, Nat.reduceAdd, Nat.reduceLeDiff, Nat.reduceSub, Nat.reduceMul, Int.reduceEq, Nat.reduceBEq, t175, t176, t177, t178, t179, t180, t173, hc3, hc6, hc99, hc114, hc129, hc181, hc194, hc195]) <;> rfl) (by (try simp only [go_sem, ↓reduceIte, Nat.reduceEqDiff, reduceCtorEq, Nat.reduceAdd, Nat.reduceLeDiff, Nat.reduceSub, Nat.reduceMul, Int.reduceEq, Nat.reduceBEq, t175, t176, t177, t178, t179, t180, t173, hc3, hc6, hc99, hc114, hc129, hc181, hc194, hc195]) <;> rfl) (k_laws_eqMatchS h (hL226.slr R_Match.ok 0 rfl hr230' hle232) (hL226.slr R_Match.ok 8 rfl hr41' hle80) fun r233 h => ?_)
                  (try simp only [go_sem, ↓reduceIte, Nat.reduceEqDiff, reduceCtorEq, Nat.reduceAdd, Nat.reduceLeDiff, Nat.reduceSub, Nat.reduceMul, Int.reduceEq, Nat.reduceBEq, t175, t176, t177, t178, t179, t180, t173, hc3, hc6, hc99, hc114, hc129, hc181, hc194, hc195])
                  refine aw_cut 4 (fun T' H' => T' 115 = Value.bool ((!r233) || (!decide (r221 = r32))) ∧ H' = H223) hl224 rfl ?_ (fun T236 H237 _ ho238 hj239 => ?_)
                  · cases hc235 : (!r233) with
                    | true =>
                      simp only [opsK]
                      (try simp only [go_sem, ↓reduceIte, Nat.reduceEqDiff, reduceCtorEq, Nat.reduceAdd, Nat.reduceLeDiff, Nat.reduceSub, Nat.reduceMul, Int.reduceEq, Nat.reduceBEq, t175, t176, t177, t178, t179, t180, t173, hc3, hc6, hc99, hc114, hc129, hc181, hc194, hc195, hc235])
                      exact ⟨by (try simp only [go_sem, ↓reduceIte, Nat.reduceEqDiff, reduceCtorEq, Nat.reduceAdd, Nat.reduceLeDiff, Nat.reduceSub, Nat.reduceMul, Int.reduceEq, Nat.reduceBEq, Bool.false_and, Bool.true_or, Bool.false_or]), rfl⟩
                    | false =>
                      simp only [opsK]
                      (try simp only [go_sem, ↓reduceIte, Nat.reduceEqDiff, reduceCtorEq, Nat.reduceAdd, Nat.reduceLeDiff, Nat.reduceSub, Nat.reduceMul, Int.reduceEq, Nat.reduceBEq, t175, t176, t177, t178, t179, t180, t173, hc3, hc6, hc99, hc114, hc129, hc181, hc194, hc195, hc235])
                      exact ⟨by (try simp only [go_sem, ↓reduceIte, Nat.reduceEqDiff, reduceCtorEq, Nat.reduceAdd, Nat.reduceLeDiff, Nat.reduceSub, Nat.reduceMul, Int.reduceEq, Nat.reduceBEq, t175, t176, t177, t178, t179, t180, t173, hc3, hc6, hc99, hc114, hc129, hc181, hc194, hc195, hc235, Bool.false_and, Bool.true_or, Bool.false_or]), rfl⟩
                  obtain ⟨t240, hH241⟩ := hj239
                  rw [hH241]
                  have t242 : T236 12 = v75 := by rw [ho238.get rfl]; (try simp only [go_sem, ↓reduceIte, Nat.reduceEqDiff, reduceCtorEq, Nat.reduceAdd, Nat.reduceLeDiff, Nat.reduceSub, Nat.reduceMul, Int.reduceEq, Nat.reduceBEq, t175, t176, t177, t178, t179, t180, t173, hc3, hc6, hc99, hc114, hc129, hc181, hc194, hc195])
                  have t243 : T236 15 = Value.int .i64 r182 := by rw [ho238.get rfl]; (try simp only [go_sem, ↓reduceIte, Nat.reduceEqDiff, reduceCtorEq, Nat.reduceAdd, Nat.reduceLeDiff, Nat.reduceSub, Nat.reduceMul, Int.reduceEq, Nat.reduceBEq, t175, t176, t177, t178, t179, t180, t173, hc3, hc6, hc99, hc114, hc129, hc181, hc194, hc195])
                  (try simp only [go_sem, ↓reduceIte, Nat.reduceEqDiff, reduceCtorEq, Nat.reduceAdd, Nat.reduceLeDiff, Nat.reduceSub, Nat.reduceMul, Int.reduceEq, Nat.reduceBEq, t242, t243, t240, hc3, hc6, hc99, hc114, hc129, hc181, hc194, hc195])
                  cases hc244 : ((!r233) || (!decide (r221 = r32))) with
                  | true =>
                    have h := h.1 hc244
                    (try simp only [go_sem, ↓reduceIte, Nat.reduceEqDiff, reduceCtorEq, Nat.reduceAdd, Nat.reduceLeDiff, Nat.reduceSub, Nat.reduceMul, Int.reduceEq, Nat.reduceBEq, t242, t243, t240, hc3, hc6, hc99, hc114, hc129, hc181, hc194, hc195, hc244])
                    exact retQ_r1 (by (try simp only [go_sem, ↓reduceIte, Nat.reduceEqDiff, reduceCtorEq, Nat.reduceAdd, Nat.reduceLeDiff, Nat.reduceSub, Nat.reduceMul, Int.reduceEq, Nat.reduceBEq, t242, t243, t240, hc3, hc6, hc99, hc114, hc129, hc181, hc194, hc195, hc244]) <;> rfl) H hL226.sub (hK _ h)
                  | false =>
                    have h := h.2 hc244
                    (try simp only [go_sem, ↓reduceIte, Nat.reduceEqDiff, reduceCtorEq, Nat.reduceAdd, Nat.reduceLeDiff, Nat.reduceSub, Nat.reduceMul, Int.reduceEq, Nat.reduceBEq, t242, t243, t240, hc3, hc6, hc99, hc114, hc129, hc181, hc194, hc195, hc244])
                    refine aw_call (by (try simp only [go_sem, ↓reduceIte, Nat.reduceEqDiff, reduceCtorEq, Nat.reduceAdd, Nat.reduceLeDiff, Nat.reduceSub, Nat.reduceMul, Int.reduceEq, Nat.reduceBEq, t242, t243, t240, hc3, hc6, hc99, hc114, hc129, hc181, hc194, hc195, hc244]) <;> rfl) (by (try simp only [go_sem, ↓reduceIte, Nat.reduceEqDiff, reduceCtorEq, Nat.reduceAdd, Nat.reduceLeDiff, Nat.reduceSub, Nat.reduceMul, Int.reduceEq, Nat.reduceBEq, t242, t243, t240, hc3, hc6, hc99, hc114, hc129, hc181, hc194, hc195, hc244]) <;> rfl) (k_laws_heldMatchS h (hL226.slr R_Match.ok 5 rfl hr190' hle191) fun r245 h => ?_)
                    (try simp only [go_sem, ↓reduceIte, Nat.reduceEqDiff, reduceCtorEq, Nat.reduceAdd, Nat.reduceLeDiff, Nat.reduceSub, Nat.reduceMul, Int.reduceEq, Nat.reduceBEq, t242, t243, t240, hc3, hc6, hc99, hc114, hc129, hc181, hc194, hc195, hc244])
                    cases hc247 : (decide (r245 < 0)) with
                    | true =>
                      have h := h.1 hc247
                      (try simp only [go_sem, ↓reduceIte, Nat.reduceEqDiff, reduceCtorEq, Nat.reduceAdd, Nat.reduceLeDiff, Nat.reduceSub, Nat.reduceMul, Int.reduceEq, Nat.reduceBEq, t242, t243, t240, hc3, hc6, hc99, hc114, hc129, hc181, hc194, hc195, hc244, hc247])
                      exact retQ_r1 (by (try simp only [go_sem, ↓reduceIte, Nat.reduceEqDiff, reduceCtorEq, Nat.reduceAdd, Nat.reduceLeDiff, Nat.reduceSub, Nat.reduceMul, Int.reduceEq, Nat.reduceBEq, t242, t243, t240, hc3, hc6, hc99, hc114, hc129, hc181, hc194, hc195, hc244, hc247]) <;> rfl) H hL226.sub (hK _ h)
                    | false =>
                      have h := h.2 hc247
                      (try simp only [go_sem, ↓reduceIte, Nat.reduceEqDiff, reduceCtorEq, Nat.reduceAdd, Nat.reduceLeDiff, Nat.reduceSub, Nat.reduceMul, Int.reduceEq, Nat.reduceBEq, t242, t243, t240, hc3, hc6, hc99, hc114, hc129, hc181, hc194, hc195, hc244, hc247])
                      cases hc248 : (!decide (r245 = r182)) with
                      | true =>
                        have h := h.1 hc248
                        (try simp only [go_sem, ↓reduceIte, Nat.reduceEqDiff, reduceCtorEq, Nat.reduceAdd, Nat.reduceLeDiff, Nat.reduceSub, Nat.reduceMul, Int.reduceEq, Nat.reduceBEq, t242, t243, t240, hc3, hc6, hc99, hc114, hc129, hc181, hc194, hc195, hc244, hc247, hc248])
                        exact retQ_r1 (by (try simp only [go_sem, ↓reduceIte, Nat.reduceEqDiff, reduceCtorEq, Nat.reduceAdd, Nat.reduceLeDiff, Nat.reduceSub, Nat.reduceMul, Int.reduceEq, Nat.reduceBEq, t242, t243, t240, hc3, hc6, hc99, hc114, hc129, hc181, hc194, hc195, hc244, hc247, hc248]) <;> rfl) H hL226.sub (hK _ h)
                      | false =>
                        have h := h.2 hc248
                        (try simp only [go_sem, ↓reduceIte, Nat.reduceEqDiff, reduceCtorEq, Nat.reduceAdd, Nat.reduceLeDiff, Nat.reduceSub, Nat.reduceMul, Int.reduceEq, Nat.reduceBEq, t242, t243, t240, hc3, hc6, hc99, hc114, hc129, hc181, hc194, hc195, hc244, hc247, hc248])
                        exact retQ_r1 (by (try simp only [go_sem, ↓reduceIte, Nat.reduceEqDiff, reduceCtorEq, Nat.reduceAdd, Nat.reduceLeDiff, Nat.reduceSub, Nat.reduceMul, Int.reduceEq, Nat.reduceBEq, t242, t243, t240, hc3, hc6, hc99, hc114, hc129, hc181, hc194, hc195, hc244, hc247, hc248]) <;> rfl) H hL226.sub (hK _ h)
end Go.Proofs.Ytonmmfjagkgifaa
