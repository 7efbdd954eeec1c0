/- Printed by gen.py, a program of this work: GW3 -/
import Derived.Test.YtonmmfjagkgifaaGT
import Derived.Test.YtonmmfjagkgifaaCodeF
import Derived.Test.YtonmmfjagkgifaaGW2
set_option linter.unusedVariables false
set_option linter.unusedSimpArgs false
namespace Go.Proofs.Ytonmmfjagkgifaa
open Go.RowKit
attribute [local go_sem] aw_mv aw_mkf aw_pick aw_bin aw_eqB aw_eqNil aw_eqAgg aw_un aw_conv aw_fa aw_ia aw_iaArr aw_ixArr aw_ixStr aw_fld aw_ext aw_bld aw_nilc aw_slc aw_slcArr aw_slcStr aw_len aw_cap aw_mnx aw_ld aw_st aw_guard_y aw_guard_n aw_nil aw_exit aw_ret aw_cond_t aw_cond_f aw_blk seqQ_norm seqQ_exit seqQ_ret blkQ_norm blkQ_exit_same blkQ_exit_ne blkQ_ret vPick_b vEqB_t vEqB_f vEqNil_sn vEqNil_ss vEqNil_pn vEqNil_ps vUn_neg vUn_not vUn_xor vConv_i vFa_p vIa_s vFld_a vExt_t vNilc_p vLen_s vLen_t vMnx_t vMnx_f abin_add abin_sub abin_mul abin_eql abin_neq abin_lss abin_leq abin_gtr abin_geq abin_and abin_or abin_xor abin_quo abin_rem abin_shl abin_shr abin_seq abin_sne abin_scat ev_tmp ev_const ev_func put_get puto_some puto_none args0_get List.getD_cons_succ List.getD_cons_zero Option.isSome_some Option.getD_some Option.isNone_none Option.isNone_some Option.map_some Option.map_none Value.bool.injEq Value.int.injEq add_mk aload_ptr rd_mk rdObj_row set_get astore_ptr apart_f apart_t List.length_cons List.length_nil List.drop_succ_cons List.drop_zero List.take_succ_cons List.take_zero List.map_cons List.map_nil Option.bind_some Option.bind_none ares_nil ares_tmp oneOf1 Nat.zero_add Nat.add_zero Bool.not_true Bool.not_false ne_eq not_false_eq_true not_true_eq_false decide_true decide_false Bool.true_and Bool.and_true Bool.false_eq_true and_self and_true true_and List.getElem?_cons_zero List.getElem?_cons_succ vc_agg vc_int vc_bool vc_slice aw_chk1 aw_chk2 st_agg st_int st_slice st_ptr one_int one_bool one_slice one_ptr one_str splice_eq aparts_nil aparts_cons afill_nil afill_cons rz0 rz1 rz2 List.all_cons List.all_nil Bool.and_self List.nil_append List.cons_append List.append_nil set_set lpQ_exit lpQ_ret vBld_def aw_guard_u abin_shr1 abin_shl1 st_bool st_str vc_str vc_ptr joinQ_exit joinQ_ret rngQ_cont rngQ_brk rngQ_out rngQ_ret
def w_impl_matches (orders_ : (List S_Order)) (returns_ : (List S_Return)) (days_ : Int) (Q : (List S_Match) → (List Int) → Prop) : Prop := orders_.length ≤ 1152921504606846976 → returns_.length ≤ 1152921504606846976 → (w_impl_indices (orders_.length : Int) fun r8 => (r8.length ≤ 1152921504606846976 ∧ (w_slices_SortStableFunc_int64 r8 (fun x20 x21 Q' => w_impl_matches_1 x20 x21 orders_ Q') fun xs28 => (∃ I3291 : Nat → (List Int) → Prop, I3291 0 ([] : List Int) ∧ (∀ (i3300 : Nat) (xs3286 : List Int), i3300 < orders_.length → I3291 i3300 xs3286 → ((xs3286.length + 1) * 2 ≤ 140737488355328 ∧ I3291 (i3300 + 1) (xs3286 ++ [(gt orders_ (i3300 : Int)).fNumber]))) ∧ (∀ (xs3286 : List Int), I3291 orders_.length xs3286 → (∃ I4406 : Nat → (List Int) → (List S_Match) → (List Int) → Prop, I4406 0 ([] : List Int) ([] : List S_Match) xs3286 ∧ (∀ (i4416 : Nat) (xs4391 : List Int) (xs4396 : List S_Match) (xs4401 : List Int), i4416 < returns_.length → I4406 i4416 xs4391 xs4396 xs4401 → (xs28.length ≤ 1152921504606846976 ∧ (∃ I4762 : Nat → Int → (List Int) → (List S_Match) → (List Int) → Prop, I4762 0 ((gt returns_ (i4416 : Int)).fNumber) xs4391 xs4396 xs4401 ∧ (∀ (i4772 : Nat) (x4746 : Int) (xs4747 : List Int) (xs4752 : List S_Match) (xs4757 : List Int), i4772 < xs28.length → I4762 i4772 x4746 xs4747 xs4752 xs4757 → (In (gt xs28 (i4772 : Int)) xs4757.length ∧ (∀ z4806, z4806 = (if (gt xs4757 (gt xs28 (i4772 : Int))) < x4746 then (gt xs4757 (gt xs28 (i4772 : Int))) else x4746) → (∃ k4809 : Bool → Prop, (∀ x4810, k4809 x4810 → ((x4810 = true → ((xs4752.length + 1) * 4 ≤ 140737488355328 ∧ (∀ xs4874, xs4874 = (xs4757.set ((gt xs28 (i4772 : Int))).toNat (IntKind.i16.wrap ((gt xs4757 (gt xs28 (i4772 : Int))) - z4806))) → I4762 (i4772 + 1) (IntKind.i16.wrap (x4746 - z4806)) xs4747 (xs4752 ++ [(⟨(IntKind.i8.wrap (i4416 : Int)), (IntKind.i8.wrap (gt xs28 (i4772 : Int))), z4806⟩ : S_Match)]) xs4874))) ∧ (x4810 = false → I4762 (i4772 + 1) x4746 xs4747 xs4752 xs4757))) ∧ ((decide (z4806 > 0)) = true → (In (gt xs28 (i4772 : Int)) orders_.length ∧ (w_impl_canMatch (gt orders_ (gt xs28 (i4772 : Int))) (gt returns_ (i4416 : Int)) days_ fun r4820 => k4809 r4820))) ∧ ((decide (z4806 > 0)) = false → k4809 false))))) ∧ (∀ (x4746 : Int) (xs4747 : List Int) (xs4752 : List S_Match) (xs4757 : List Int), I4762 xs28.length x4746 xs4747 xs4752 xs4757 → ((xs4747.length + 1) * 8 ≤ 140737488355328 ∧ I4406 (i4416 + 1) (xs4747 ++ [(IntKind.i64.wrap x4746)]) xs4752 xs4757))))) ∧ (∀ (xs4391 : List Int) (xs4396 : List S_Match) (xs4401 : List Int), I4406 returns_.length xs4391 xs4396 xs4401 → Q xs4396 xs4391)))))))
theorem k_impl_matches {orders_ : (List S_Order)} {returns_ : (List S_Return)} {days_ : Int} {Q : (List S_Match) → (List Int) → Prop} (h : w_impl_matches orders_ returns_ days_ Q) {H : Hp} {vorders_ : Value} (rorders_ : SlR R_Order 5 H orders_ vorders_) {vreturns_ : Value} (rreturns_ : SlR R_Return 4 H returns_ vreturns_) {K : Value → Hp → Prop} (hK : ∀ (r0 : (List S_Match)) (r1 : (List Int)), Q r0 r1 → ∀ (H' : Hp) (kb0 : Option Nat) (v0 : Value) (rows0 : List (List Value)) (kb1 : Option Nat) (v1 : Value) (rows1 : List (List Value)), Live H' → Loc H H' [.own kb0 131 3 v0 rows0, .own kb1 2 1 v1 rows1] → Rows R_Match H r0 rows0 → Rows (RI .i64) H r1 rows1 → K (.tuple #[v0, v1]) H') :
    ACalls Go.Proofs.Try.prog n_impl_matches #[vorders_, vreturns_, Value.int .i64 days_] H K := by
  unfold w_impl_matches at h
  have h := h rorders_.le
  have h := h rreturns_.le
  refine acalls_go fn_impl_matches rfl fun hl => ?_
  simp only [c_impl_matches]
  have hL := Loc.nil H
  (try simp only [go_sem, ↓reduceIte, Nat.reduceEqDiff, reduceCtorEq, Nat.reduceAdd, Nat.reduceLeDiff, Nat.reduceSub, Nat.reduceMul, Int.reduceEq, Nat.reduceBEq])
  refine awL_box [vorders_] hl hL ((congrArg valCells (show ev _ _ = vorders_ from (by (try simp only [go_sem, ↓reduceIte, Nat.reduceEqDiff, reduceCtorEq, Nat.reduceAdd, Nat.reduceLeDiff, Nat.reduceSub, Nat.reduceMul, Int.reduceEq, Nat.reduceBEq]) <;> rfl))).trans rorders_.cells) fun b1 H2 hl3 hL4 => ?_
  have hb6 := hL4.box 0 rfl
  have hn7 := rorders_.len
  (try simp only [go_sem, ↓reduceIte, Nat.reduceEqDiff, reduceCtorEq, Nat.reduceAdd, Nat.reduceLeDiff, Nat.reduceSub, Nat.reduceMul, Int.reduceEq, Nat.reduceBEq, hn7, hb6])
  refine aw_callL (by (try simp only [go_sem, ↓reduceIte, Nat.reduceEqDiff, reduceCtorEq, Nat.reduceAdd, Nat.reduceLeDiff, Nat.reduceSub, Nat.reduceMul, Int.reduceEq, Nat.reduceBEq, hn7, hb6]) <;> rfl) (by (try simp only [go_sem, ↓reduceIte, Nat.reduceEqDiff, reduceCtorEq, Nat.reduceAdd, Nat.reduceLeDiff, Nat.reduceSub, Nat.reduceMul, Int.reduceEq, Nat.reduceBEq, hn7, hb6]) <;> rfl) (k_impl_indices h fun r8 h H10 kb14 v15 rows16 _ hL12 hr17 hl11 => ?_)
  have hL13 := hL4.call hL12
  have hr17' : Rows (RI .i64) H r8 rows16 := Rows.flat (fun _ _ hx => hx) hr17
  obtain ⟨hle19, h⟩ := h
  (try simp only [go_sem, ↓reduceIte, Nat.reduceEqDiff, reduceCtorEq, Nat.reduceAdd, Nat.reduceLeDiff, Nat.reduceSub, Nat.reduceMul, Int.reduceEq, Nat.reduceBEq, hn7])
  have hLm22 := hL13.minus 0 rfl
  refine aw_callL (by (try simp only [go_sem, ↓reduceIte, Nat.reduceEqDiff, reduceCtorEq, Nat.reduceAdd, Nat.reduceLeDiff, Nat.reduceSub, Nat.reduceMul, Int.reduceEq, Nat.reduceBEq, hn7]) <;> rfl) (by (try simp only [go_sem, ↓reduceIte, Nat.reduceEqDiff, reduceCtorEq, Nat.reduceAdd, Nat.reduceLeDiff, Nat.reduceSub, Nat.reduceMul, Int.reduceEq, Nat.reduceBEq, hn7]) <;> rfl) (k_slices_SortStableFunc_int64 h rfl (hL13.get 0 rfl) (Rows.flat (fun _ _ hx => hx) hr17') (fun x20 x21 Q' hq H1 hs K' hK' => k_impl_matches_1 hq (rd_sub hs (show rdObj (_) 0 1 = some [vorders_] by rw [hLm22.box 0 rfl]; rfl)) ⟨_, rfl, (rorders_.sub R_Order.ok (hLm22.sub.trans hs))⟩ hK') fun  xs28 h H24  rows29 _ hL26  hr30 hl25 => ?_)
  have hL27 := hL13.back 0 rfl (L' := []) hL26
  have hr30' : Rows (RI .i64) H xs28 rows29 := Rows.flat (fun _ _ hx => hx) hr30
  (try simp only [go_sem, ↓reduceIte, Nat.reduceEqDiff, reduceCtorEq, Nat.reduceAdd, Nat.reduceLeDiff, Nat.reduceSub, Nat.reduceMul, Int.reduceEq, Nat.reduceBEq, hn7])
  refine awL_bsl0 1 hl25 hL27 fun b34 v35 H31 hl32 hL33 => ?_
  have hr36 : Rows (RI .i16) H ([] : List Int) [] := Rows.nil (RI .i16) H
  have hb38 := hL33.box 2 rfl
  have hn39 := rorders_.len
  (try simp only [go_sem, ↓reduceIte, Nat.reduceEqDiff, reduceCtorEq, Nat.reduceAdd, Nat.reduceLeDiff, Nat.reduceSub, Nat.reduceMul, Int.reduceEq, Nat.reduceBEq, hn7, hn39, hb38])
  obtain ⟨I3291, h0, hSI3291, hEI3291⟩ := h
  refine aw_rangeO hl32 (orders_.length) (by have := rorders_.le; omega) (fun i3300 T' H' => ∃ xs3286 kb3287 v3288 rows3289, I3291 i3300 xs3286 ∧ T' 9 = v3288 ∧ Loc H H' [.own kb3287 23 1 v3288 rows3289, .own kb14 2 1 v15 rows29, .box b1 50 [vorders_] 1] ∧ Rows (RI .i16) H xs3286 rows3289) H31 (Hp.sub.refl _) (by (try simp only [go_sem, ↓reduceIte, Nat.reduceEqDiff, reduceCtorEq, Nat.reduceAdd, Nat.reduceLeDiff, Nat.reduceSub, Nat.reduceMul, Int.reduceEq, Nat.reduceBEq, hn7, hn39, hb38]) <;> rfl) ⟨([] : List Int), (some b34), v35, [], h0, (by (try simp only [go_sem, ↓reduceIte, Nat.reduceEqDiff, reduceCtorEq, Nat.reduceAdd, Nat.reduceLeDiff, Nat.reduceSub, Nat.reduceMul, Int.reduceEq, Nat.reduceBEq, hn7, hn39, hb38]) <;> rfl), hL33, hr36⟩ (fun T' ho' => by rw [ev_tmp, ho'.get rfl]; (try simp only [go_sem, ↓reduceIte, Nat.reduceEqDiff, reduceCtorEq, Nat.reduceAdd, Nat.reduceLeDiff, Nat.reduceSub, Nat.reduceMul, Int.reduceEq, Nat.reduceBEq, hn7, hn39, hb38])) rfl (by decide) (by decide) ?_ ?_
  · rintro i3300 T3294 H3293 hi3302 hl3295 ho3296 ht3301 ⟨xs3286, kb3287, v3288, rows3289, hI3298, t3299, hL3297, hr3290⟩
    have t3303 : T3294 1 = vreturns_ := by rw [ho3296.get rfl]; (try simp only [go_sem, ↓reduceIte, Nat.reduceEqDiff, reduceCtorEq, Nat.reduceAdd, Nat.reduceLeDiff, Nat.reduceSub, Nat.reduceMul, Int.reduceEq, Nat.reduceBEq, hn7, hn39, hb38])
    have t3304 : T3294 2 = Value.int .i64 days_ := by rw [ho3296.get rfl]; (try simp only [go_sem, ↓reduceIte, Nat.reduceEqDiff, reduceCtorEq, Nat.reduceAdd, Nat.reduceLeDiff, Nat.reduceSub, Nat.reduceMul, Int.reduceEq, Nat.reduceBEq, hn7, hn39, hb38])
    have t3305 : T3294 3 = Value.pointer (some ⟨b1, 0, none⟩) := by rw [ho3296.get rfl]; (try simp only [go_sem, ↓reduceIte, Nat.reduceEqDiff, reduceCtorEq, Nat.reduceAdd, Nat.reduceLeDiff, Nat.reduceSub, Nat.reduceMul, Int.reduceEq, Nat.reduceBEq, hn7, hn39, hb38])
    have t3306 : T3294 8 = v15 := by rw [ho3296.get rfl]; (try simp only [go_sem, ↓reduceIte, Nat.reduceEqDiff, reduceCtorEq, Nat.reduceAdd, Nat.reduceLeDiff, Nat.reduceSub, Nat.reduceMul, Int.reduceEq, Nat.reduceBEq, hn7, hn39, hb38])
    have t3307 : T3294 27 = vorders_ := by rw [ho3296.get rfl]; (try simp only [go_sem, ↓reduceIte, Nat.reduceEqDiff, reduceCtorEq, Nat.reduceAdd, Nat.reduceLeDiff, Nat.reduceSub, Nat.reduceMul, Int.reduceEq, Nat.reduceBEq, hn7, hn39, hb38])
    have t3308 : T3294 28 = Value.int .i64 (orders_.length : Int) := by rw [ho3296.get rfl]; (try simp only [go_sem, ↓reduceIte, Nat.reduceEqDiff, reduceCtorEq, Nat.reduceAdd, Nat.reduceLeDiff, Nat.reduceSub, Nat.reduceMul, Int.reduceEq, Nat.reduceBEq, hn7, hn39, hb38])
    have hin3309 : In (i3300 : Int) orders_.length := ⟨by omega, by omega⟩
    have h := hSI3291 i3300 xs3286 hi3302 hI3298
    obtain ⟨b3310, o3315, c3311, hia3312, hrd3313, hR3314⟩ := SlR.atB rorders_ hL3297.sub (k := .i64) hin3309
    obtain rfl : c3311 = [Value.int .i8 ((gt orders_ (i3300 : Int)).fBuyer), Value.int .i8 ((gt orders_ (i3300 : Int)).fItem), Value.int .i16 ((gt orders_ (i3300 : Int)).fNumber), Value.int .i16 ((gt orders_ (i3300 : Int)).fPrice), Value.int .i16 ((gt orders_ (i3300 : Int)).fDay)] := hR3314
    (try simp only [go_sem, ↓reduceIte, Nat.reduceEqDiff, reduceCtorEq, Nat.reduceAdd, Nat.reduceLeDiff, Nat.reduceSub, Nat.reduceMul, Int.reduceEq, Nat.reduceBEq, t3299, t3303, t3304, t3305, t3306, t3307, t3308, ht3301, hn7, hn39, hia3312, hrd3313])
    refine awL_alloc hl3295 hL3297 fun b3316 H3317 hl3318 hL3319 => ?_
    (try simp only [go_sem, ↓reduceIte, Nat.reduceEqDiff, reduceCtorEq, Nat.reduceAdd, Nat.reduceLeDiff, Nat.reduceSub, Nat.reduceMul, Int.reduceEq, Nat.reduceBEq, t3299, t3303, t3304, t3305, t3306, t3307, t3308, ht3301, hn7, hn39, hia3312])
    refine awL_st (off := 0) (xs' := [Value.int .i8 ((gt orders_ (i3300 : Int)).fBuyer), Value.int .i8 ((gt orders_ (i3300 : Int)).fItem), Value.int .i16 ((gt orders_ (i3300 : Int)).fNumber), Value.int .i16 ((gt orders_ (i3300 : Int)).fPrice), Value.int .i16 ((gt orders_ (i3300 : Int)).fDay)]) 0 hl3318 hL3319 rfl (by (try simp only [go_sem, ↓reduceIte, Nat.reduceEqDiff, reduceCtorEq, Nat.reduceAdd, Nat.reduceLeDiff, Nat.reduceSub, Nat.reduceMul, Int.reduceEq, Nat.reduceBEq, t3299, t3303, t3304, t3305, t3306, t3307, t3308, ht3301, hn7, hn39, hia3312]) <;> rfl) (by (try simp only [go_sem, ↓reduceIte, Nat.reduceEqDiff, reduceCtorEq, Nat.reduceAdd, Nat.reduceLeDiff, Nat.reduceSub, Nat.reduceMul, Int.reduceEq, Nat.reduceBEq, t3299, t3303, t3304, t3305, t3306, t3307, t3308, ht3301, hn7, hn39, hia3312]) <;> rfl) (by (try simp only [go_sem, ↓reduceIte, Nat.reduceEqDiff, reduceCtorEq, Nat.reduceAdd, Nat.reduceLeDiff, Nat.reduceSub, Nat.reduceMul, Int.reduceEq, Nat.reduceBEq, t3299, t3303, t3304, t3305, t3306, t3307, t3308, ht3301, hn7, hn39, hia3312]) <;> rfl) fun H3321 hl3322 hL3323 => ?_
    have hb3324 := hL3323.box 0 rfl
    (try simp only [go_sem, ↓reduceIte, Nat.reduceEqDiff, reduceCtorEq, Nat.reduceAdd, Nat.reduceLeDiff, Nat.reduceSub, Nat.reduceMul, Int.reduceEq, Nat.reduceBEq, t3299, t3303, t3304, t3305, t3306, t3307, t3308, ht3301, hn7, hn39, hia3312, hb3324])
    refine awL_bsl1 [Value.int .i16 ((gt orders_ (i3300 : Int)).fNumber)] hl3322 hL3323 (by (try simp only [go_sem, ↓reduceIte, Nat.reduceEqDiff, reduceCtorEq, Nat.reduceAdd, Nat.reduceLeDiff, Nat.reduceSub, Nat.reduceMul, Int.reduceEq, Nat.reduceBEq, t3299, t3303, t3304, t3305, t3306, t3307, t3308, ht3301, hn7, hn39, hia3312, hb3324]) <;> rfl) rfl rfl fun b3328 v3329 H3325 hl3326 hL3327 => ?_
    have hr3330 : Rows (RI .i16) H [(gt orders_ (i3300 : Int)).fNumber] [[Value.int .i16 ((gt orders_ (i3300 : Int)).fNumber)]] := (Rows.nil (RI .i16) H).snoc (show (RI .i16) H ((gt orders_ (i3300 : Int)).fNumber) [Value.int .i16 ((gt orders_ (i3300 : Int)).fNumber)] from rfl)
    obtain ⟨hc3332, h⟩ := h
    (try simp only [go_sem, ↓reduceIte, Nat.reduceEqDiff, reduceCtorEq, Nat.reduceAdd, Nat.reduceLeDiff, Nat.reduceSub, Nat.reduceMul, Int.reduceEq, Nat.reduceBEq, t3299, t3303, t3304, t3305, t3306, t3307, t3308, ht3301, hn7, hn39, hia3312])
    refine awL_app1 2 0 hl3326 hL3327 rfl rfl (by (try simp only [go_sem, ↓reduceIte, Nat.reduceEqDiff, reduceCtorEq, Nat.reduceAdd, Nat.reduceLeDiff, Nat.reduceSub, Nat.reduceMul, Int.reduceEq, Nat.reduceBEq, t3299, t3303, t3304, t3305, t3306, t3307, t3308, ht3301, hn7, hn39, hia3312]) <;> rfl) (by (try simp only [go_sem, ↓reduceIte, Nat.reduceEqDiff, reduceCtorEq, Nat.reduceAdd, Nat.reduceLeDiff, Nat.reduceSub, Nat.reduceMul, Int.reduceEq, Nat.reduceBEq, t3299, t3303, t3304, t3305, t3306, t3307, t3308, ht3301, hn7, hn39, hia3312]) <;> rfl) rfl (by omega) (by rw [hr3290.1]; exact hc3332) fun kb3336 v3337 H3333 hl3334 hL3335 => ?_
    have hr3338 := hr3290.snoc (show (RI .i16) H ((gt orders_ (i3300 : Int)).fNumber) [Value.int .i16 ((gt orders_ (i3300 : Int)).fNumber)] from rfl)
    (try simp only [go_sem, ↓reduceIte, Nat.reduceEqDiff, reduceCtorEq, Nat.reduceAdd, Nat.reduceLeDiff, Nat.reduceSub, Nat.reduceMul, Int.reduceEq, Nat.reduceBEq, t3299, t3303, t3304, t3305, t3306, t3307, t3308, ht3301, hn7, hn39, hia3312])
    exact ⟨H3333, Hp.sub.refl _, (xs3286 ++ [(gt orders_ (i3300 : Int)).fNumber]), kb3336, v3337, (rows3289 ++ [[Value.int .i16 ((gt orders_ (i3300 : Int)).fNumber)]]), h, (by (try simp only [go_sem, ↓reduceIte, Nat.reduceEqDiff, reduceCtorEq, Nat.reduceAdd, Nat.reduceLeDiff, Nat.reduceSub, Nat.reduceMul, Int.reduceEq, Nat.reduceBEq, t3299, t3303, t3304, t3305, t3306, t3307, t3308, ht3301, hn7, hn39, hia3312]) <;> rfl), (hL3335.sel [2, 3, 4] (by decide)), hr3338⟩
  · rintro T3294 H3293 hl3295 ho3296 ht3301 ⟨xs3286, kb3287, v3288, rows3289, hI3298, t3299, hL3297, hr3290⟩
    have t3339 : T3294 1 = vreturns_ := by rw [ho3296.get rfl]; (try simp only [go_sem, ↓reduceIte, Nat.reduceEqDiff, reduceCtorEq, Nat.reduceAdd, Nat.reduceLeDiff, Nat.reduceSub, Nat.reduceMul, Int.reduceEq, Nat.reduceBEq, hn7, hn39, hb38])
    have t3340 : T3294 2 = Value.int .i64 days_ := by rw [ho3296.get rfl]; (try simp only [go_sem, ↓reduceIte, Nat.reduceEqDiff, reduceCtorEq, Nat.reduceAdd, Nat.reduceLeDiff, Nat.reduceSub, Nat.reduceMul, Int.reduceEq, Nat.reduceBEq, hn7, hn39, hb38])
    have t3341 : T3294 3 = Value.pointer (some ⟨b1, 0, none⟩) := by rw [ho3296.get rfl]; (try simp only [go_sem, ↓reduceIte, Nat.reduceEqDiff, reduceCtorEq, Nat.reduceAdd, Nat.reduceLeDiff, Nat.reduceSub, Nat.reduceMul, Int.reduceEq, Nat.reduceBEq, hn7, hn39, hb38])
    have t3342 : T3294 8 = v15 := by rw [ho3296.get rfl]; (try simp only [go_sem, ↓reduceIte, Nat.reduceEqDiff, reduceCtorEq, Nat.reduceAdd, Nat.reduceLeDiff, Nat.reduceSub, Nat.reduceMul, Int.reduceEq, Nat.reduceBEq, hn7, hn39, hb38])
    have t3343 : T3294 27 = vorders_ := by rw [ho3296.get rfl]; (try simp only [go_sem, ↓reduceIte, Nat.reduceEqDiff, reduceCtorEq, Nat.reduceAdd, Nat.reduceLeDiff, Nat.reduceSub, Nat.reduceMul, Int.reduceEq, Nat.reduceBEq, hn7, hn39, hb38])
    have t3344 : T3294 28 = Value.int .i64 (orders_.length : Int) := by rw [ho3296.get rfl]; (try simp only [go_sem, ↓reduceIte, Nat.reduceEqDiff, reduceCtorEq, Nat.reduceAdd, Nat.reduceLeDiff, Nat.reduceSub, Nat.reduceMul, Int.reduceEq, Nat.reduceBEq, hn7, hn39, hb38])
    have h := hEI3291 xs3286 hI3298
    (try simp only [go_sem, ↓reduceIte, Nat.reduceEqDiff, reduceCtorEq, Nat.reduceAdd, Nat.reduceLeDiff, Nat.reduceSub, Nat.reduceMul, Int.reduceEq, Nat.reduceBEq, t3299, t3339, t3340, t3341, t3342, t3343, t3344, ht3301, hn7, hn39])
    refine awL_bsl0 3 hl3295 hL3297 fun b3348 v3349 H3345 hl3346 hL3347 => ?_
    have hr3350 : Rows R_Match H ([] : List S_Match) [] := Rows.nil R_Match H
    (try simp only [go_sem, ↓reduceIte, Nat.reduceEqDiff, reduceCtorEq, Nat.reduceAdd, Nat.reduceLeDiff, Nat.reduceSub, Nat.reduceMul, Int.reduceEq, Nat.reduceBEq, t3299, t3339, t3340, t3341, t3342, t3343, t3344, ht3301, hn7, hn39])
    refine awL_bsl0 1 hl3346 hL3347 fun b3355 v3356 H3352 hl3353 hL3354 => ?_
    have hr3357 : Rows (RI .i64) H ([] : List Int) [] := Rows.nil (RI .i64) H
    have hn3359 := rreturns_.len
    (try simp only [go_sem, ↓reduceIte, Nat.reduceEqDiff, reduceCtorEq, Nat.reduceAdd, Nat.reduceLeDiff, Nat.reduceSub, Nat.reduceMul, Int.reduceEq, Nat.reduceBEq, t3299, t3339, t3340, t3341, t3342, t3343, t3344, ht3301, hn7, hn39, hn3359])
    obtain ⟨I4406, h0, hSI4406, hEI4406⟩ := h
    refine aw_rangeO hl3353 (returns_.length) (by have := rreturns_.le; omega) (fun i4416 T' H' => ∃ xs4391 xs4396 xs4401 kb4392 v4393 rows4394 kb4397 v4398 rows4399 rows4404, I4406 i4416 xs4391 xs4396 xs4401 ∧ T' 12 = v4398 ∧ T' 13 = v4393 ∧ Loc H H' [.own kb4392 2 1 v4393 rows4394, .own kb4397 131 3 v4398 rows4399, .own kb3287 23 1 v3288 rows4404, .own kb14 2 1 v15 rows29, .box b1 50 [vorders_] 1] ∧ Rows (RI .i64) H xs4391 rows4394 ∧ Rows R_Match H xs4396 rows4399 ∧ Rows (RI .i16) H xs4401 rows4404) H3352 (Hp.sub.refl _) (by (try simp only [go_sem, ↓reduceIte, Nat.reduceEqDiff, reduceCtorEq, Nat.reduceAdd, Nat.reduceLeDiff, Nat.reduceSub, Nat.reduceMul, Int.reduceEq, Nat.reduceBEq, t3299, t3339, t3340, t3341, t3342, t3343, t3344, ht3301, hn7, hn39, hn3359]) <;> rfl) ⟨([] : List Int), ([] : List S_Match), xs3286, (some b3355), v3356, [], (some b3348), v3349, [], rows3289, h0, (by (try simp only [go_sem, ↓reduceIte, Nat.reduceEqDiff, reduceCtorEq, Nat.reduceAdd, Nat.reduceLeDiff, Nat.reduceSub, Nat.reduceMul, Int.reduceEq, Nat.reduceBEq, t3299, t3339, t3340, t3341, t3342, t3343, t3344, ht3301, hn7, hn39, hn3359]) <;> rfl), (by (try simp only [go_sem, ↓reduceIte, Nat.reduceEqDiff, reduceCtorEq, Nat.reduceAdd, Nat.reduceLeDiff, Nat.reduceSub, Nat.reduceMul, Int.reduceEq, Nat.reduceBEq, t3299, t3339, t3340, t3341, t3342, t3343, t3344, ht3301, hn7, hn39, hn3359]) <;> rfl), hL3354, hr3357, hr3350, hr3290⟩ (fun T' ho' => by rw [ev_tmp, ho'.get rfl]; (try simp only [go_sem, ↓reduceIte, Nat.reduceEqDiff, reduceCtorEq, Nat.reduceAdd, Nat.reduceLeDiff, Nat.reduceSub, Nat.reduceMul, Int.reduceEq, Nat.reduceBEq, t3299, t3339, t3340, t3341, t3342, t3343, t3344, ht3301, hn7, hn39, hn3359])) rfl (by decide) (by decide) ?_ ?_
    · rintro i4416 T4409 H4408 hi4418 hl4410 ho4411 ht4417 ⟨xs4391, xs4396, xs4401, kb4392, v4393, rows4394, kb4397, v4398, rows4399, rows4404, hI4413, t4414, t4415, hL4412, hr4395, hr4400, hr4405⟩
      have t4419 : T4409 2 = Value.int .i64 days_ := by rw [ho4411.get rfl]; (try simp only [go_sem, ↓reduceIte, Nat.reduceEqDiff, reduceCtorEq, Nat.reduceAdd, Nat.reduceLeDiff, Nat.reduceSub, Nat.reduceMul, Int.reduceEq, Nat.reduceBEq, t3299, t3339, t3340, t3341, t3342, t3343, t3344, ht3301, hn7, hn39, hn3359])
      have t4420 : T4409 3 = Value.pointer (some ⟨b1, 0, none⟩) := by rw [ho4411.get rfl]; (try simp only [go_sem, ↓reduceIte, Nat.reduceEqDiff, reduceCtorEq, Nat.reduceAdd, Nat.reduceLeDiff, Nat.reduceSub, Nat.reduceMul, Int.reduceEq, Nat.reduceBEq, t3299, t3339, t3340, t3341, t3342, t3343, t3344, ht3301, hn7, hn39, hn3359])
      have t4421 : T4409 8 = v15 := by rw [ho4411.get rfl]; (try simp only [go_sem, ↓reduceIte, Nat.reduceEqDiff, reduceCtorEq, Nat.reduceAdd, Nat.reduceLeDiff, Nat.reduceSub, Nat.reduceMul, Int.reduceEq, Nat.reduceBEq, t3299, t3339, t3340, t3341, t3342, t3343, t3344, ht3301, hn7, hn39, hn3359])
      have t4422 : T4409 9 = v3288 := by rw [ho4411.get rfl]; (try simp only [go_sem, ↓reduceIte, Nat.reduceEqDiff, reduceCtorEq, Nat.reduceAdd, Nat.reduceLeDiff, Nat.reduceSub, Nat.reduceMul, Int.reduceEq, Nat.reduceBEq, t3299, t3339, t3340, t3341, t3342, t3343, t3344, ht3301, hn7, hn39, hn3359])
      have t4423 : T4409 41 = vreturns_ := by rw [ho4411.get rfl]; (try simp only [go_sem, ↓reduceIte, Nat.reduceEqDiff, reduceCtorEq, Nat.reduceAdd, Nat.reduceLeDiff, Nat.reduceSub, Nat.reduceMul, Int.reduceEq, Nat.reduceBEq, t3299, t3339, t3340, t3341, t3342, t3343, t3344, ht3301, hn7, hn39, hn3359])
      have t4424 : T4409 42 = Value.int .i64 (returns_.length : Int) := by rw [ho4411.get rfl]; (try simp only [go_sem, ↓reduceIte, Nat.reduceEqDiff, reduceCtorEq, Nat.reduceAdd, Nat.reduceLeDiff, Nat.reduceSub, Nat.reduceMul, Int.reduceEq, Nat.reduceBEq, t3299, t3339, t3340, t3341, t3342, t3343, t3344, ht3301, hn7, hn39, hn3359])
      have hin4425 : In (i4416 : Int) returns_.length := ⟨by omega, by omega⟩
      have h := hSI4406 i4416 xs4391 xs4396 xs4401 hi4418 hI4413
      obtain ⟨b4426, o4431, c4427, hia4428, hrd4429, hR4430⟩ := SlR.atB rreturns_ hL4412.sub (k := .i64) hin4425
      obtain rfl : c4427 = [Value.int .i8 ((gt returns_ (i4416 : Int)).fBuyer), Value.int .i8 ((gt returns_ (i4416 : Int)).fItem), Value.int .i16 ((gt returns_ (i4416 : Int)).fNumber), Value.int .i16 ((gt returns_ (i4416 : Int)).fDay)] := hR4430
      (try simp only [go_sem, ↓reduceIte, Nat.reduceEqDiff, reduceCtorEq, Nat.reduceAdd, Nat.reduceLeDiff, Nat.reduceSub, Nat.reduceMul, Int.reduceEq, Nat.reduceBEq, t4414, t4415, t4419, t4420, t4421, t4422, t4423, t4424, ht4417, hn7, hn39, hn3359, hia4428, hrd4429])
      refine awL_alloc hl4410 hL4412 fun b4432 H4433 hl4434 hL4435 => ?_
      (try simp only [go_sem, ↓reduceIte, Nat.reduceEqDiff, reduceCtorEq, Nat.reduceAdd, Nat.reduceLeDiff, Nat.reduceSub, Nat.reduceMul, Int.reduceEq, Nat.reduceBEq, t4414, t4415, t4419, t4420, t4421, t4422, t4423, t4424, ht4417, hn7, hn39, hn3359, hia4428])
      refine awL_st (off := 0) (xs' := [Value.int .i8 ((gt returns_ (i4416 : Int)).fBuyer), Value.int .i8 ((gt returns_ (i4416 : Int)).fItem), Value.int .i16 ((gt returns_ (i4416 : Int)).fNumber), Value.int .i16 ((gt returns_ (i4416 : Int)).fDay)]) 0 hl4434 hL4435 rfl (by (try simp only [go_sem, ↓reduceIte, Nat.reduceEqDiff, reduceCtorEq, Nat.reduceAdd, Nat.reduceLeDiff, Nat.reduceSub, Nat.reduceMul, Int.reduceEq, Nat.reduceBEq, t4414, t4415, t4419, t4420, t4421, t4422, t4423, t4424, ht4417, hn7, hn39, hn3359, hia4428]) <;> rfl) (by (try simp only [go_sem, ↓reduceIte, Nat.reduceEqDiff, reduceCtorEq, Nat.reduceAdd, Nat.reduceLeDiff, Nat.reduceSub, Nat.reduceMul, Int.reduceEq, Nat.reduceBEq, t4414, t4415, t4419, t4420, t4421, t4422, t4423, t4424, ht4417, hn7, hn39, hn3359, hia4428]) <;> rfl) (by (try simp only [go_sem, ↓reduceIte, Nat.reduceEqDiff, reduceCtorEq, Nat.reduceAdd, Nat.reduceLeDiff, Nat.reduceSub, Nat.reduceMul, Int.reduceEq, Nat.reduceBEq, t4414, t4415, t4419, t4420, t4421, t4422, t4423, t4424, ht4417, hn7, hn39, hn3359, hia4428]) <;> rfl) fun H4437 hl4438 hL4439 => ?_
      have hb4440 := hL4439.box 0 rfl
      have hn4441 := hL4439.lenR 4 rfl hr30'
      (try simp only [go_sem, ↓reduceIte, Nat.reduceEqDiff, reduceCtorEq, Nat.reduceAdd, Nat.reduceLeDiff, Nat.reduceSub, Nat.reduceMul, Int.reduceEq, Nat.reduceBEq, t4414, t4415, t4419, t4420, t4421, t4422, t4423, t4424, ht4417, hn7, hn39, hn3359, hia4428, hn4441, hb4440])
      obtain ⟨hle4775, h⟩ := h
      obtain ⟨I4762, h0, hSI4762, hEI4762⟩ := h
      refine aw_rangeO hl4438 (xs28.length) (by have := hle4775; omega) (fun i4772 T' H' => ∃ x4746 xs4747 xs4752 xs4757 rows4750 kb4753 v4754 rows4755 rows4760, I4762 i4772 x4746 xs4747 xs4752 xs4757 ∧ T' 12 = v4754 ∧ T' 16 = Value.int .i16 x4746 ∧ Loc H H' [.box b4432 107 [Value.int .i8 ((gt returns_ (i4416 : Int)).fBuyer), Value.int .i8 ((gt returns_ (i4416 : Int)).fItem), Value.int .i16 ((gt returns_ (i4416 : Int)).fNumber), Value.int .i16 ((gt returns_ (i4416 : Int)).fDay)] 4, .own kb4392 2 1 v4393 rows4750, .own kb4753 131 3 v4754 rows4755, .own kb3287 23 1 v3288 rows4760, .own kb14 2 1 v15 rows29, .box b1 50 [vorders_] 1] ∧ Rows (RI .i64) H xs4747 rows4750 ∧ Rows R_Match H xs4752 rows4755 ∧ Rows (RI .i16) H xs4757 rows4760) H4437 (Hp.sub.refl _) (by (try simp only [go_sem, ↓reduceIte, Nat.reduceEqDiff, reduceCtorEq, Nat.reduceAdd, Nat.reduceLeDiff, Nat.reduceSub, Nat.reduceMul, Int.reduceEq, Nat.reduceBEq, t4414, t4415, t4419, t4420, t4421, t4422, t4423, t4424, ht4417, hn7, hn39, hn3359, hia4428, hn4441, hb4440]) <;> rfl) ⟨(gt returns_ (i4416 : Int)).fNumber, xs4391, xs4396, xs4401, rows4394, kb4397, v4398, rows4399, rows4404, h0, (by (try simp only [go_sem, ↓reduceIte, Nat.reduceEqDiff, reduceCtorEq, Nat.reduceAdd, Nat.reduceLeDiff, Nat.reduceSub, Nat.reduceMul, Int.reduceEq, Nat.reduceBEq, t4414, t4415, t4419, t4420, t4421, t4422, t4423, t4424, ht4417, hn7, hn39, hn3359, hia4428, hn4441, hb4440]) <;> rfl), (by (try simp only [go_sem, ↓reduceIte, Nat.reduceEqDiff, reduceCtorEq, Nat.reduceAdd, Nat.reduceLeDiff, Nat.reduceSub, Nat.reduceMul, Int.reduceEq, Nat.reduceBEq, t4414, t4415, t4419, t4420, t4421, t4422, t4423, t4424, ht4417, hn7, hn39, hn3359, hia4428, hn4441, hb4440]) <;> rfl), hL4439, hr4395, hr4400, hr4405⟩ (fun T' ho' => by rw [ev_tmp, ho'.get rfl]; (try simp only [go_sem, ↓reduceIte, Nat.reduceEqDiff, reduceCtorEq, Nat.reduceAdd, Nat.reduceLeDiff, Nat.reduceSub, Nat.reduceMul, Int.reduceEq, Nat.reduceBEq, t4414, t4415, t4419, t4420, t4421, t4422, t4423, t4424, ht4417, hn7, hn39, hn3359, hia4428, hn4441, hb4440])) rfl (by decide) (by decide) ?_ ?_
      · rintro i4772 T4765 H4764 hi4774 hl4766 ho4767 ht4773 ⟨x4746, xs4747, xs4752, xs4757, rows4750, kb4753, v4754, rows4755, rows4760, hI4769, t4770, t4771, hL4768, hr4751, hr4756, hr4761⟩
        have t4776 : T4765 2 = Value.int .i64 days_ := by rw [ho4767.get rfl]; (try simp only [go_sem, ↓reduceIte, Nat.reduceEqDiff, reduceCtorEq, Nat.reduceAdd, Nat.reduceLeDiff, Nat.reduceSub, Nat.reduceMul, Int.reduceEq, Nat.reduceBEq, t4414, t4415, t4419, t4420, t4421, t4422, t4423, t4424, ht4417, hn7, hn39, hn3359, hia4428, hn4441, hb4440])
        have t4777 : T4765 3 = Value.pointer (some ⟨b1, 0, none⟩) := by rw [ho4767.get rfl]; (try simp only [go_sem, ↓reduceIte, Nat.reduceEqDiff, reduceCtorEq, Nat.reduceAdd, Nat.reduceLeDiff, Nat.reduceSub, Nat.reduceMul, Int.reduceEq, Nat.reduceBEq, t4414, t4415, t4419, t4420, t4421, t4422, t4423, t4424, ht4417, hn7, hn39, hn3359, hia4428, hn4441, hb4440])
        have t4778 : T4765 8 = v15 := by rw [ho4767.get rfl]; (try simp only [go_sem, ↓reduceIte, Nat.reduceEqDiff, reduceCtorEq, Nat.reduceAdd, Nat.reduceLeDiff, Nat.reduceSub, Nat.reduceMul, Int.reduceEq, Nat.reduceBEq, t4414, t4415, t4419, t4420, t4421, t4422, t4423, t4424, ht4417, hn7, hn39, hn3359, hia4428, hn4441, hb4440])
        have t4779 : T4765 9 = v3288 := by rw [ho4767.get rfl]; (try simp only [go_sem, ↓reduceIte, Nat.reduceEqDiff, reduceCtorEq, Nat.reduceAdd, Nat.reduceLeDiff, Nat.reduceSub, Nat.reduceMul, Int.reduceEq, Nat.reduceBEq, t4414, t4415, t4419, t4420, t4421, t4422, t4423, t4424, ht4417, hn7, hn39, hn3359, hia4428, hn4441, hb4440])
        have t4780 : T4765 13 = v4393 := by rw [ho4767.get rfl]; (try simp only [go_sem, ↓reduceIte, Nat.reduceEqDiff, reduceCtorEq, Nat.reduceAdd, Nat.reduceLeDiff, Nat.reduceSub, Nat.reduceMul, Int.reduceEq, Nat.reduceBEq, t4414, t4415, t4419, t4420, t4421, t4422, t4423, t4424, ht4417, hn7, hn39, hn3359, hia4428, hn4441, hb4440])
        have t4781 : T4765 14 = Value.int .i64 (i4416 : Int) := by rw [ho4767.get rfl]; (try simp only [go_sem, ↓reduceIte, Nat.reduceEqDiff, reduceCtorEq, Nat.reduceAdd, Nat.reduceLeDiff, Nat.reduceSub, Nat.reduceMul, Int.reduceEq, Nat.reduceBEq, t4414, t4415, t4419, t4420, t4421, t4422, t4423, t4424, ht4417, hn7, hn39, hn3359, hia4428, hn4441, hb4440])
        have t4782 : T4765 15 = Value.pointer (some ⟨b4432, 0, none⟩) := by rw [ho4767.get rfl]; (try simp only [go_sem, ↓reduceIte, Nat.reduceEqDiff, reduceCtorEq, Nat.reduceAdd, Nat.reduceLeDiff, Nat.reduceSub, Nat.reduceMul, Int.reduceEq, Nat.reduceBEq, t4414, t4415, t4419, t4420, t4421, t4422, t4423, t4424, ht4417, hn7, hn39, hn3359, hia4428, hn4441, hb4440])
        have t4783 : T4765 41 = vreturns_ := by rw [ho4767.get rfl]; (try simp only [go_sem, ↓reduceIte, Nat.reduceEqDiff, reduceCtorEq, Nat.reduceAdd, Nat.reduceLeDiff, Nat.reduceSub, Nat.reduceMul, Int.reduceEq, Nat.reduceBEq, t4414, t4415, t4419, t4420, t4421, t4422, t4423, t4424, ht4417, hn7, hn39, hn3359, hia4428, hn4441, hb4440])
        have t4784 : T4765 42 = Value.int .i64 (returns_.length : Int) := by rw [ho4767.get rfl]; (try simp only [go_sem, ↓reduceIte, Nat.reduceEqDiff, reduceCtorEq, Nat.reduceAdd, Nat.reduceLeDiff, Nat.reduceSub, Nat.reduceMul, Int.reduceEq, Nat.reduceBEq, t4414, t4415, t4419, t4420, t4421, t4422, t4423, t4424, ht4417, hn7, hn39, hn3359, hia4428, hn4441, hb4440])
        have t4785 : T4765 43 = Value.int .i64 (i4416 : Int) := by rw [ho4767.get rfl]; (try simp only [go_sem, ↓reduceIte, Nat.reduceEqDiff, reduceCtorEq, Nat.reduceAdd, Nat.reduceLeDiff, Nat.reduceSub, Nat.reduceMul, Int.reduceEq, Nat.reduceBEq, t4414, t4415, t4419, t4420, t4421, t4422, t4423, t4424, ht4417, hn7, hn39, hn3359, hia4428, hn4441, hb4440])
        have t4786 : T4765 50 = v15 := by rw [ho4767.get rfl]; (try simp only [go_sem, ↓reduceIte, Nat.reduceEqDiff, reduceCtorEq, Nat.reduceAdd, Nat.reduceLeDiff, Nat.reduceSub, Nat.reduceMul, Int.reduceEq, Nat.reduceBEq, t4414, t4415, t4419, t4420, t4421, t4422, t4423, t4424, ht4417, hn7, hn39, hn3359, hia4428, hn4441, hb4440])
        have t4787 : T4765 51 = Value.int .i64 (xs28.length : Int) := by rw [ho4767.get rfl]; (try simp only [go_sem, ↓reduceIte, Nat.reduceEqDiff, reduceCtorEq, Nat.reduceAdd, Nat.reduceLeDiff, Nat.reduceSub, Nat.reduceMul, Int.reduceEq, Nat.reduceBEq, t4414, t4415, t4419, t4420, t4421, t4422, t4423, t4424, ht4417, hn7, hn39, hn3359, hia4428, hn4441, hb4440])
        have hin4788 : In (i4772 : Int) xs28.length := ⟨by omega, by omega⟩
        have h := hSI4762 i4772 x4746 xs4747 xs4752 xs4757 hi4774 hI4769
        obtain ⟨b4789, c4790, hkb4794, hia4791, hrd4792, hg4795, hlt4796, hR4793⟩ := hL4768.atR 4 rfl hr30' (k := .i64) hin4788
        obtain rfl : c4790 = [Value.int .i64 (gt xs28 (i4772 : Int))] := hR4793
        obtain ⟨hi4797, h⟩ := h
        obtain ⟨b4798, c4799, hkb4803, hia4800, hrd4801, hg4804, hlt4805, hR4802⟩ := hL4768.atR 3 rfl hr4761 (k := .i64) hi4797
        obtain rfl : c4799 = [Value.int .i16 (gt xs4757 (gt xs28 (i4772 : Int)))] := hR4802
        (try simp only [go_sem, ↓reduceIte, Nat.reduceEqDiff, reduceCtorEq, Nat.reduceAdd, Nat.reduceLeDiff, Nat.reduceSub, Nat.reduceMul, Int.reduceEq, Nat.reduceBEq, t4770, t4771, t4776, t4777, t4778, t4779, t4780, t4781, t4782, t4783, t4784, t4785, t4786, t4787, ht4773, hn7, hn39, hn3359, hia4428, hn4441, hia4791, hia4800, hrd4792, hrd4801])
        obtain ⟨z4806, hz4807⟩ : ∃ z, z = (if (gt xs4757 (gt xs28 (i4772 : Int))) < x4746 then (gt xs4757 (gt xs28 (i4772 : Int))) else x4746) := ⟨_, rfl⟩
        simp only [← hz4807]
        have h := h z4806 hz4807
        (try simp only [go_sem, ↓reduceIte, Nat.reduceEqDiff, reduceCtorEq, Nat.reduceAdd, Nat.reduceLeDiff, Nat.reduceSub, Nat.reduceMul, Int.reduceEq, Nat.reduceBEq, t4770, t4771, t4776, t4777, t4778, t4779, t4780, t4781, t4782, t4783, t4784, t4785, t4786, t4787, ht4773, hn7, hn39, hn3359, hia4428, hn4441, hia4791, hia4800, hrd4792, hrd4801])
        obtain ⟨k4809, hk4822, hk4809, h4823⟩ := h
        refine aw_cut 8 (fun T' H' => ∃ x4810, k4809 x4810 ∧ T' 72 = Value.bool x4810 ∧ H' = H4764) hl4766 rfl ?_ (fun T4824 H4825 _ ho4826 hj4827 => ?_)
        · cases hc4808 : (decide (z4806 > 0)) with
          | true =>
            simp only [opsK]
            have h := hk4809 hc4808
            have hb4811 := hL4768.box 5 rfl
            obtain ⟨hi4812, h⟩ := h
            obtain ⟨b4813, o4818, c4814, hia4815, hrd4816, hR4817⟩ := SlR.atB rorders_ hL4768.sub (k := .i64) hi4812
            obtain rfl : c4814 = [Value.int .i8 ((gt orders_ (gt xs28 (i4772 : Int))).fBuyer), Value.int .i8 ((gt orders_ (gt xs28 (i4772 : Int))).fItem), Value.int .i16 ((gt orders_ (gt xs28 (i4772 : Int))).fNumber), Value.int .i16 ((gt orders_ (gt xs28 (i4772 : Int))).fPrice), Value.int .i16 ((gt orders_ (gt xs28 (i4772 : Int))).fDay)] := hR4817
            have hb4819 := hL4768.box 0 rfl
            (try simp only [go_sem, ↓reduceIte, Nat.reduceEqDiff, reduceCtorEq, Nat.reduceAdd, Nat.reduceLeDiff, Nat.reduceSub, Nat.reduceMul, Int.reduceEq, Nat.reduceBEq, t4770, t4771, t4776, t4777, t4778, t4779, t4780, t4781, t4782, t4783, t4784, t4785, t4786, t4787, ht4773, hn7, hn39, hn3359, hia4428, hn4441, hia4791, hia4800, hc4808, hia4815, hrd4792, hrd4801, hb4811, hrd4816, hb4819])
            refine aw_call (by (try simp only [go_sem, ↓reduceIte, Nat.reduceEqDiff, reduceCtorEq, Nat.reduceAdd, Nat.reduceLeDiff, Nat.reduceSub, Nat.reduceMul, Int.reduceEq, Nat.reduceBEq, t4770, t4771, t4776, t4777, t4778, t4779, t4780, t4781, t4782, t4783, t4784, t4785, t4786, t4787, ht4773, hn7, hn39, hn3359, hia4428, hn4441, hia4791, hia4800, hc4808, hia4815, hrd4792, hrd4801, hb4811, hrd4816, hb4819]) <;> rfl) (by (try simp only [go_sem, ↓reduceIte, Nat.reduceEqDiff, reduceCtorEq, Nat.reduceAdd, Nat.reduceLeDiff, Nat.reduceSub, Nat.reduceMul, Int.reduceEq, Nat.reduceBEq, t4770, t4771, t4776, t4777, t4778, t4779, t4780, t4781, t4782, t4783, t4784, t4785, t4786, t4787, ht4773, hn7, hn39, hn3359, hia4428, hn4441, hia4791, hia4800, hc4808, hia4815, hrd4792, hrd4801, hb4811, hrd4816, hb4819]) <;> rfl) (k_impl_canMatch h rfl rfl fun r4820 h => ?_)
            (try simp only [go_sem, ↓reduceIte, Nat.reduceEqDiff, reduceCtorEq, Nat.reduceAdd, Nat.reduceLeDiff, Nat.reduceSub, Nat.reduceMul, Int.reduceEq, Nat.reduceBEq, t4770, t4771, t4776, t4777, t4778, t4779, t4780, t4781, t4782, t4783, t4784, t4785, t4786, t4787, ht4773, hn7, hn39, hn3359, hia4428, hn4441, hia4791, hia4800, hc4808, hia4815, hrd4792, hrd4801, hb4811, hrd4816, hb4819])
            exact ⟨r4820, h, by (try simp only [go_sem, ↓reduceIte, Nat.reduceEqDiff, reduceCtorEq, Nat.reduceAdd, Nat.reduceLeDiff, Nat.reduceSub, Nat.reduceMul, Int.reduceEq, Nat.reduceBEq, t4770, t4771, t4776, t4777, t4778, t4779, t4780, t4781, t4782, t4783, t4784, t4785, t4786, t4787, ht4773, hn7, hn39, hn3359, hia4428, hn4441, hia4791, hia4800, hc4808, hia4815, hrd4792, hrd4801, hb4811, hrd4816, hb4819]), rfl⟩
          | false =>
            simp only [opsK]
            (try simp only [go_sem, ↓reduceIte, Nat.reduceEqDiff, reduceCtorEq, Nat.reduceAdd, Nat.reduceLeDiff, Nat.reduceSub, Nat.reduceMul, Int.reduceEq, Nat.reduceBEq, t4770, t4771, t4776, t4777, t4778, t4779, t4780, t4781, t4782, t4783, t4784, t4785, t4786, t4787, ht4773, hn7, hn39, hn3359, hia4428, hn4441, hia4791, hia4800, hrd4792, hrd4801, hc4808])
            exact ⟨false, h4823 hc4808, by (try simp only [go_sem, ↓reduceIte, Nat.reduceEqDiff, reduceCtorEq, Nat.reduceAdd, Nat.reduceLeDiff, Nat.reduceSub, Nat.reduceMul, Int.reduceEq, Nat.reduceBEq]), rfl⟩
        obtain ⟨x4810, h, t4828, hH4829⟩ := hj4827
        rw [hH4829]
        have h := hk4822 x4810 h
        have t4830 : T4824 2 = Value.int .i64 days_ := by rw [ho4826.get rfl]; (try simp only [go_sem, ↓reduceIte, Nat.reduceEqDiff, reduceCtorEq, Nat.reduceAdd, Nat.reduceLeDiff, Nat.reduceSub, Nat.reduceMul, Int.reduceEq, Nat.reduceBEq, t4770, t4771, t4776, t4777, t4778, t4779, t4780, t4781, t4782, t4783, t4784, t4785, t4786, t4787, ht4773, hn7, hn39, hn3359, hia4428, hn4441, hia4791, hia4800, hrd4792, hrd4801])
        have t4831 : T4824 3 = Value.pointer (some ⟨b1, 0, none⟩) := by rw [ho4826.get rfl]; (try simp only [go_sem, ↓reduceIte, Nat.reduceEqDiff, reduceCtorEq, Nat.reduceAdd, Nat.reduceLeDiff, Nat.reduceSub, Nat.reduceMul, Int.reduceEq, Nat.reduceBEq, t4770, t4771, t4776, t4777, t4778, t4779, t4780, t4781, t4782, t4783, t4784, t4785, t4786, t4787, ht4773, hn7, hn39, hn3359, hia4428, hn4441, hia4791, hia4800, hrd4792, hrd4801])
        have t4832 : T4824 8 = v15 := by rw [ho4826.get rfl]; (try simp only [go_sem, ↓reduceIte, Nat.reduceEqDiff, reduceCtorEq, Nat.reduceAdd, Nat.reduceLeDiff, Nat.reduceSub, Nat.reduceMul, Int.reduceEq, Nat.reduceBEq, t4770, t4771, t4776, t4777, t4778, t4779, t4780, t4781, t4782, t4783, t4784, t4785, t4786, t4787, ht4773, hn7, hn39, hn3359, hia4428, hn4441, hia4791, hia4800, hrd4792, hrd4801])
        have t4833 : T4824 9 = v3288 := by rw [ho4826.get rfl]; (try simp only [go_sem, ↓reduceIte, Nat.reduceEqDiff, reduceCtorEq, Nat.reduceAdd, Nat.reduceLeDiff, Nat.reduceSub, Nat.reduceMul, Int.reduceEq, Nat.reduceBEq, t4770, t4771, t4776, t4777, t4778, t4779, t4780, t4781, t4782, t4783, t4784, t4785, t4786, t4787, ht4773, hn7, hn39, hn3359, hia4428, hn4441, hia4791, hia4800, hrd4792, hrd4801])
        have t4834 : T4824 12 = v4754 := by rw [ho4826.get rfl]; (try simp only [go_sem, ↓reduceIte, Nat.reduceEqDiff, reduceCtorEq, Nat.reduceAdd, Nat.reduceLeDiff, Nat.reduceSub, Nat.reduceMul, Int.reduceEq, Nat.reduceBEq, t4770, t4771, t4776, t4777, t4778, t4779, t4780, t4781, t4782, t4783, t4784, t4785, t4786, t4787, ht4773, hn7, hn39, hn3359, hia4428, hn4441, hia4791, hia4800, hrd4792, hrd4801])
        have t4835 : T4824 13 = v4393 := by rw [ho4826.get rfl]; (try simp only [go_sem, ↓reduceIte, Nat.reduceEqDiff, reduceCtorEq, Nat.reduceAdd, Nat.reduceLeDiff, Nat.reduceSub, Nat.reduceMul, Int.reduceEq, Nat.reduceBEq, t4770, t4771, t4776, t4777, t4778, t4779, t4780, t4781, t4782, t4783, t4784, t4785, t4786, t4787, ht4773, hn7, hn39, hn3359, hia4428, hn4441, hia4791, hia4800, hrd4792, hrd4801])
        have t4836 : T4824 14 = Value.int .i64 (i4416 : Int) := by rw [ho4826.get rfl]; (try simp only [go_sem, ↓reduceIte, Nat.reduceEqDiff, reduceCtorEq, Nat.reduceAdd, Nat.reduceLeDiff, Nat.reduceSub, Nat.reduceMul, Int.reduceEq, Nat.reduceBEq, t4770, t4771, t4776, t4777, t4778, t4779, t4780, t4781, t4782, t4783, t4784, t4785, t4786, t4787, ht4773, hn7, hn39, hn3359, hia4428, hn4441, hia4791, hia4800, hrd4792, hrd4801])
        have t4837 : T4824 15 = Value.pointer (some ⟨b4432, 0, none⟩) := by rw [ho4826.get rfl]; (try simp only [go_sem, ↓reduceIte, Nat.reduceEqDiff, reduceCtorEq, Nat.reduceAdd, Nat.reduceLeDiff, Nat.reduceSub, Nat.reduceMul, Int.reduceEq, Nat.reduceBEq, t4770, t4771, t4776, t4777, t4778, t4779, t4780, t4781, t4782, t4783, t4784, t4785, t4786, t4787, ht4773, hn7, hn39, hn3359, hia4428, hn4441, hia4791, hia4800, hrd4792, hrd4801])
        have t4838 : T4824 16 = Value.int .i16 x4746 := by rw [ho4826.get rfl]; (try simp only [go_sem, ↓reduceIte, Nat.reduceEqDiff, reduceCtorEq, Nat.reduceAdd, Nat.reduceLeDiff, Nat.reduceSub, Nat.reduceMul, Int.reduceEq, Nat.reduceBEq, t4770, t4771, t4776, t4777, t4778, t4779, t4780, t4781, t4782, t4783, t4784, t4785, t4786, t4787, ht4773, hn7, hn39, hn3359, hia4428, hn4441, hia4791, hia4800, hrd4792, hrd4801])
        have t4839 : T4824 18 = Value.int .i64 (gt xs28 (i4772 : Int)) := by rw [ho4826.get rfl]; (try simp only [go_sem, ↓reduceIte, Nat.reduceEqDiff, reduceCtorEq, Nat.reduceAdd, Nat.reduceLeDiff, Nat.reduceSub, Nat.reduceMul, Int.reduceEq, Nat.reduceBEq, t4770, t4771, t4776, t4777, t4778, t4779, t4780, t4781, t4782, t4783, t4784, t4785, t4786, t4787, ht4773, hn7, hn39, hn3359, hia4428, hn4441, hia4791, hia4800, hrd4792, hrd4801])
        have t4840 : T4824 19 = Value.int .i16 z4806 := by rw [ho4826.get rfl]; (try simp only [go_sem, ↓reduceIte, Nat.reduceEqDiff, reduceCtorEq, Nat.reduceAdd, Nat.reduceLeDiff, Nat.reduceSub, Nat.reduceMul, Int.reduceEq, Nat.reduceBEq, t4770, t4771, t4776, t4777, t4778, t4779, t4780, t4781, t4782, t4783, t4784, t4785, t4786, t4787, ht4773, hn7, hn39, hn3359, hia4428, hn4441, hia4791, hia4800, hrd4792, hrd4801])
        have t4841 : T4824 41 = vreturns_ := by rw [ho4826.get rfl]; (try simp only [go_sem, ↓reduceIte, Nat.reduceEqDiff, reduceCtorEq, Nat.reduceAdd, Nat.reduceLeDiff, Nat.reduceSub, Nat.reduceMul, Int.reduceEq, Nat.reduceBEq, t4770, t4771, t4776, t4777, t4778, t4779, t4780, t4781, t4782, t4783, t4784, t4785, t4786, t4787, ht4773, hn7, hn39, hn3359, hia4428, hn4441, hia4791, hia4800, hrd4792, hrd4801])
        have t4842 : T4824 42 = Value.int .i64 (returns_.length : Int) := by rw [ho4826.get rfl]; (try simp only [go_sem, ↓reduceIte, Nat.reduceEqDiff, reduceCtorEq, Nat.reduceAdd, Nat.reduceLeDiff, Nat.reduceSub, Nat.reduceMul, Int.reduceEq, Nat.reduceBEq, t4770, t4771, t4776, t4777, t4778, t4779, t4780, t4781, t4782, t4783, t4784, t4785, t4786, t4787, ht4773, hn7, hn39, hn3359, hia4428, hn4441, hia4791, hia4800, hrd4792, hrd4801])
        have t4843 : T4824 43 = Value.int .i64 (i4416 : Int) := by rw [ho4826.get rfl]; (try simp only [go_sem, ↓reduceIte, Nat.reduceEqDiff, reduceCtorEq, Nat.reduceAdd, Nat.reduceLeDiff, Nat.reduceSub, Nat.reduceMul, Int.reduceEq, Nat.reduceBEq, t4770, t4771, t4776, t4777, t4778, t4779, t4780, t4781, t4782, t4783, t4784, t4785, t4786, t4787, ht4773, hn7, hn39, hn3359, hia4428, hn4441, hia4791, hia4800, hrd4792, hrd4801])
        have t4844 : T4824 50 = v15 := by rw [ho4826.get rfl]; (try simp only [go_sem, ↓reduceIte, Nat.reduceEqDiff, reduceCtorEq, Nat.reduceAdd, Nat.reduceLeDiff, Nat.reduceSub, Nat.reduceMul, Int.reduceEq, Nat.reduceBEq, t4770, t4771, t4776, t4777, t4778, t4779, t4780, t4781, t4782, t4783, t4784, t4785, t4786, t4787, ht4773, hn7, hn39, hn3359, hia4428, hn4441, hia4791, hia4800, hrd4792, hrd4801])
        have t4845 : T4824 51 = Value.int .i64 (xs28.length : Int) := by rw [ho4826.get rfl]; (try simp only [go_sem, ↓reduceIte, Nat.reduceEqDiff, reduceCtorEq, Nat.reduceAdd, Nat.reduceLeDiff, Nat.reduceSub, Nat.reduceMul, Int.reduceEq, Nat.reduceBEq, t4770, t4771, t4776, t4777, t4778, t4779, t4780, t4781, t4782, t4783, t4784, t4785, t4786, t4787, ht4773, hn7, hn39, hn3359, hia4428, hn4441, hia4791, hia4800, hrd4792, hrd4801])
        have t4846 : T4824 52 = Value.int .i64 (i4772 : Int) := by rw [ho4826.get rfl]; (try simp only [go_sem, ↓reduceIte, Nat.reduceEqDiff, reduceCtorEq, Nat.reduceAdd, Nat.reduceLeDiff, Nat.reduceSub, Nat.reduceMul, Int.reduceEq, Nat.reduceBEq, t4770, t4771, t4776, t4777, t4778, t4779, t4780, t4781, t4782, t4783, t4784, t4785, t4786, t4787, ht4773, hn7, hn39, hn3359, hia4428, hn4441, hia4791, hia4800, hrd4792, hrd4801])
        (try simp only [go_sem, ↓reduceIte, Nat.reduceEqDiff, reduceCtorEq, Nat.reduceAdd, Nat.reduceLeDiff, Nat.reduceSub, Nat.reduceMul, Int.reduceEq, Nat.reduceBEq, t4830, t4831, t4832, t4833, t4834, t4835, t4836, t4837, t4838, t4839, t4840, t4841, t4842, t4843, t4844, t4845, t4846, t4828, hn7, hn39, hn3359, hia4428, hn4441, hia4791, hia4800, hrd4792, hrd4801])
        cases hc4847 : x4810 with
        | true =>
          have h := h.1 hc4847
          (try simp only [go_sem, ↓reduceIte, Nat.reduceEqDiff, reduceCtorEq, Nat.reduceAdd, Nat.reduceLeDiff, Nat.reduceSub, Nat.reduceMul, Int.reduceEq, Nat.reduceBEq, t4830, t4831, t4832, t4833, t4834, t4835, t4836, t4837, t4838, t4839, t4840, t4841, t4842, t4843, t4844, t4845, t4846, t4828, hn7, hn39, hn3359, hia4428, hn4441, hia4791, hia4800, hc4847, hrd4792, hrd4801])
          refine awL_bsl1 [Value.int .i8 (IntKind.i8.wrap (i4416 : Int)), Value.int .i8 (IntKind.i8.wrap (gt xs28 (i4772 : Int))), Value.int .i16 z4806] hl4766 hL4768 (by (try simp only [go_sem, ↓reduceIte, Nat.reduceEqDiff, reduceCtorEq, Nat.reduceAdd, Nat.reduceLeDiff, Nat.reduceSub, Nat.reduceMul, Int.reduceEq, Nat.reduceBEq, t4830, t4831, t4832, t4833, t4834, t4835, t4836, t4837, t4838, t4839, t4840, t4841, t4842, t4843, t4844, t4845, t4846, t4828, hn7, hn39, hn3359, hia4428, hn4441, hia4791, hia4800, hc4847, hrd4792, hrd4801]) <;> rfl) rfl rfl fun b4851 v4852 H4848 hl4849 hL4850 => ?_
          have hr4853 : Rows R_Match H [(⟨(IntKind.i8.wrap (i4416 : Int)), (IntKind.i8.wrap (gt xs28 (i4772 : Int))), z4806⟩ : S_Match)] [[Value.int .i8 (IntKind.i8.wrap (i4416 : Int)), Value.int .i8 (IntKind.i8.wrap (gt xs28 (i4772 : Int))), Value.int .i16 z4806]] := (Rows.nil R_Match H).snoc (show R_Match H (⟨(IntKind.i8.wrap (i4416 : Int)), (IntKind.i8.wrap (gt xs28 (i4772 : Int))), z4806⟩ : S_Match) [Value.int .i8 (IntKind.i8.wrap (i4416 : Int)), Value.int .i8 (IntKind.i8.wrap (gt xs28 (i4772 : Int))), Value.int .i16 z4806] from rfl)
          obtain ⟨hc4855, h⟩ := h
          (try simp only [go_sem, ↓reduceIte, Nat.reduceEqDiff, reduceCtorEq, Nat.reduceAdd, Nat.reduceLeDiff, Nat.reduceSub, Nat.reduceMul, Int.reduceEq, Nat.reduceBEq, t4830, t4831, t4832, t4833, t4834, t4835, t4836, t4837, t4838, t4839, t4840, t4841, t4842, t4843, t4844, t4845, t4846, t4828, hn7, hn39, hn3359, hia4428, hn4441, hia4791, hia4800, hc4847])
          refine awL_app1 3 0 hl4849 hL4850 rfl rfl (by (try simp only [go_sem, ↓reduceIte, Nat.reduceEqDiff, reduceCtorEq, Nat.reduceAdd, Nat.reduceLeDiff, Nat.reduceSub, Nat.reduceMul, Int.reduceEq, Nat.reduceBEq, t4830, t4831, t4832, t4833, t4834, t4835, t4836, t4837, t4838, t4839, t4840, t4841, t4842, t4843, t4844, t4845, t4846, t4828, hn7, hn39, hn3359, hia4428, hn4441, hia4791, hia4800, hc4847]) <;> rfl) (by (try simp only [go_sem, ↓reduceIte, Nat.reduceEqDiff, reduceCtorEq, Nat.reduceAdd, Nat.reduceLeDiff, Nat.reduceSub, Nat.reduceMul, Int.reduceEq, Nat.reduceBEq, t4830, t4831, t4832, t4833, t4834, t4835, t4836, t4837, t4838, t4839, t4840, t4841, t4842, t4843, t4844, t4845, t4846, t4828, hn7, hn39, hn3359, hia4428, hn4441, hia4791, hia4800, hc4847]) <;> rfl) rfl (by omega) (by rw [hr4756.1]; exact hc4855) fun kb4859 v4860 H4856 hl4857 hL4858 => ?_
          have hr4861 := hr4756.snoc (show R_Match H (⟨(IntKind.i8.wrap (i4416 : Int)), (IntKind.i8.wrap (gt xs28 (i4772 : Int))), z4806⟩ : S_Match) [Value.int .i8 (IntKind.i8.wrap (i4416 : Int)), Value.int .i8 (IntKind.i8.wrap (gt xs28 (i4772 : Int))), Value.int .i16 z4806] from rfl)
          obtain ⟨b4862, c4863, hkb4867, hia4864, hrd4865, hg4868, hlt4869, hR4866⟩ := hL4858.atR 4 rfl hr4761 (k := .i64) hi4797
          obtain rfl : c4863 = [Value.int .i16 (gt xs4757 (gt xs28 (i4772 : Int)))] := hR4866
          (try simp only [go_sem, ↓reduceIte, Nat.reduceEqDiff, reduceCtorEq, Nat.reduceAdd, Nat.reduceLeDiff, Nat.reduceSub, Nat.reduceMul, Int.reduceEq, Nat.reduceBEq, t4830, t4831, t4832, t4833, t4834, t4835, t4836, t4837, t4838, t4839, t4840, t4841, t4842, t4843, t4844, t4845, t4846, t4828, hn7, hn39, hn3359, hia4428, hn4441, hia4791, hc4847, hia4864, hrd4865])
          refine awL_wrR (sub := 0) (r' := [Value.int .i16 (IntKind.i16.wrap ((gt xs4757 (gt xs28 (i4772 : Int))) - z4806))]) 4 hl4857 hL4858 rfl hkb4867 hlt4869 hg4868 (by (try simp only [go_sem, ↓reduceIte, Nat.reduceEqDiff, reduceCtorEq, Nat.reduceAdd, Nat.reduceLeDiff, Nat.reduceSub, Nat.reduceMul, Int.reduceEq, Nat.reduceBEq, t4830, t4831, t4832, t4833, t4834, t4835, t4836, t4837, t4838, t4839, t4840, t4841, t4842, t4843, t4844, t4845, t4846, t4828, hn7, hn39, hn3359, hia4428, hn4441, hia4791, hc4847, hia4864, hrd4865]) <;> rfl) rfl (by (try simp only [go_sem, ↓reduceIte, Nat.reduceEqDiff, reduceCtorEq, Nat.reduceAdd, Nat.reduceLeDiff, Nat.reduceSub, Nat.reduceMul, Int.reduceEq, Nat.reduceBEq, t4830, t4831, t4832, t4833, t4834, t4835, t4836, t4837, t4838, t4839, t4840, t4841, t4842, t4843, t4844, t4845, t4846, t4828, hn7, hn39, hn3359, hia4428, hn4441, hia4791, hc4847, hia4864, hrd4865]) <;> rfl) (by (try simp only [go_sem, ↓reduceIte, Nat.reduceEqDiff, reduceCtorEq, Nat.reduceAdd, Nat.reduceLeDiff, Nat.reduceSub, Nat.reduceMul, Int.reduceEq, Nat.reduceBEq, t4830, t4831, t4832, t4833, t4834, t4835, t4836, t4837, t4838, t4839, t4840, t4841, t4842, t4843, t4844, t4845, t4846, t4828, hn7, hn39, hn3359, hia4428, hn4441, hia4791, hc4847, hia4864, hrd4865]) <;> rfl) fun H4870 hl4871 hL4872 => ?_
          have hr4873 := hr4761.set ((gt xs28 (i4772 : Int))).toNat (show (RI .i16) H (IntKind.i16.wrap ((gt xs4757 (gt xs28 (i4772 : Int))) - z4806)) [Value.int .i16 (IntKind.i16.wrap ((gt xs4757 (gt xs28 (i4772 : Int))) - z4806))] from rfl)
          obtain ⟨xs4874, hxs4875⟩ : ∃ ys, ys = (xs4757.set ((gt xs28 (i4772 : Int))).toNat (IntKind.i16.wrap ((gt xs4757 (gt xs28 (i4772 : Int))) - z4806))) := ⟨_, rfl⟩
          rw [← hxs4875] at hr4873
          have h := h xs4874 hxs4875
          generalize (rows4760.set ((gt xs28 (i4772 : Int))).toNat [Value.int .i16 (IntKind.i16.wrap ((gt xs4757 (gt xs28 (i4772 : Int))) - z4806))]) = rows4876 at hL4872 hr4873
          (try simp only [go_sem, ↓reduceIte, Nat.reduceEqDiff, reduceCtorEq, Nat.reduceAdd, Nat.reduceLeDiff, Nat.reduceSub, Nat.reduceMul, Int.reduceEq, Nat.reduceBEq, t4830, t4831, t4832, t4833, t4834, t4835, t4836, t4837, t4838, t4839, t4840, t4841, t4842, t4843, t4844, t4845, t4846, t4828, hn7, hn39, hn3359, hia4428, hn4441, hia4791, hc4847, hia4864])
          exact ⟨H4870, Hp.sub.refl _, (IntKind.i16.wrap (x4746 - z4806)), xs4747, (xs4752 ++ [(⟨(IntKind.i8.wrap (i4416 : Int)), (IntKind.i8.wrap (gt xs28 (i4772 : Int))), z4806⟩ : S_Match)]), xs4874, rows4750, kb4859, v4860, (rows4755 ++ [[Value.int .i8 (IntKind.i8.wrap (i4416 : Int)), Value.int .i8 (IntKind.i8.wrap (gt xs28 (i4772 : Int))), Value.int .i16 z4806]]), rows4876, h, (by (try simp only [go_sem, ↓reduceIte, Nat.reduceEqDiff, reduceCtorEq, Nat.reduceAdd, Nat.reduceLeDiff, Nat.reduceSub, Nat.reduceMul, Int.reduceEq, Nat.reduceBEq, t4830, t4831, t4832, t4833, t4834, t4835, t4836, t4837, t4838, t4839, t4840, t4841, t4842, t4843, t4844, t4845, t4846, t4828, hn7, hn39, hn3359, hia4428, hn4441, hia4791, hc4847, hia4864]) <;> rfl), (by (try simp only [go_sem, ↓reduceIte, Nat.reduceEqDiff, reduceCtorEq, Nat.reduceAdd, Nat.reduceLeDiff, Nat.reduceSub, Nat.reduceMul, Int.reduceEq, Nat.reduceBEq, t4830, t4831, t4832, t4833, t4834, t4835, t4836, t4837, t4838, t4839, t4840, t4841, t4842, t4843, t4844, t4845, t4846, t4828, hn7, hn39, hn3359, hia4428, hn4441, hia4791, hc4847, hia4864]) <;> rfl), (hL4872.sel [1, 2, 3, 4, 5, 6] (by decide)), hr4751, hr4861, hr4873⟩
        | false =>
          have h := h.2 hc4847
          (try simp only [go_sem, ↓reduceIte, Nat.reduceEqDiff, reduceCtorEq, Nat.reduceAdd, Nat.reduceLeDiff, Nat.reduceSub, Nat.reduceMul, Int.reduceEq, Nat.reduceBEq, t4830, t4831, t4832, t4833, t4834, t4835, t4836, t4837, t4838, t4839, t4840, t4841, t4842, t4843, t4844, t4845, t4846, t4828, hn7, hn39, hn3359, hia4428, hn4441, hia4791, hia4800, hc4847, hrd4792, hrd4801])
          exact ⟨H4764, Hp.sub.refl _, x4746, xs4747, xs4752, xs4757, rows4750, kb4753, v4754, rows4755, rows4760, h, (by (try simp only [go_sem, ↓reduceIte, Nat.reduceEqDiff, reduceCtorEq, Nat.reduceAdd, Nat.reduceLeDiff, Nat.reduceSub, Nat.reduceMul, Int.reduceEq, Nat.reduceBEq, t4830, t4831, t4832, t4833, t4834, t4835, t4836, t4837, t4838, t4839, t4840, t4841, t4842, t4843, t4844, t4845, t4846, t4828, hn7, hn39, hn3359, hia4428, hn4441, hia4791, hia4800, hc4847, hrd4792, hrd4801]) <;> rfl), (by (try simp only [go_sem, ↓reduceIte, Nat.reduceEqDiff, reduceCtorEq, Nat.reduceAdd, Nat.reduceLeDiff, Nat.reduceSub, Nat.reduceMul, Int.reduceEq, Nat.reduceBEq, t4830, t4831, t4832, t4833, t4834, t4835, t4836, t4837, t4838, t4839, t4840, t4841, t4842, t4843, t4844, t4845, t4846, t4828, hn7, hn39, hn3359, hia4428, hn4441, hia4791, hia4800, hc4847, hrd4792, hrd4801]) <;> rfl), hL4768, hr4751, hr4756, hr4761⟩
      · rintro T4765 H4764 hl4766 ho4767 ht4773 ⟨x4746, xs4747, xs4752, xs4757, rows4750, kb4753, v4754, rows4755, rows4760, hI4769, t4770, t4771, hL4768, hr4751, hr4756, hr4761⟩
        have t4877 : T4765 2 = Value.int .i64 days_ := by rw [ho4767.get rfl]; (try simp only [go_sem, ↓reduceIte, Nat.reduceEqDiff, reduceCtorEq, Nat.reduceAdd, Nat.reduceLeDiff, Nat.reduceSub, Nat.reduceMul, Int.reduceEq, Nat.reduceBEq, t4414, t4415, t4419, t4420, t4421, t4422, t4423, t4424, ht4417, hn7, hn39, hn3359, hia4428, hn4441, hb4440])
        have t4878 : T4765 3 = Value.pointer (some ⟨b1, 0, none⟩) := by rw [ho4767.get rfl]; (try simp only [go_sem, ↓reduceIte, Nat.reduceEqDiff, reduceCtorEq, Nat.reduceAdd, Nat.reduceLeDiff, Nat.reduceSub, Nat.reduceMul, Int.reduceEq, Nat.reduceBEq, t4414, t4415, t4419, t4420, t4421, t4422, t4423, t4424, ht4417, hn7, hn39, hn3359, hia4428, hn4441, hb4440])
        have t4879 : T4765 8 = v15 := by rw [ho4767.get rfl]; (try simp only [go_sem, ↓reduceIte, Nat.reduceEqDiff, reduceCtorEq, Nat.reduceAdd, Nat.reduceLeDiff, Nat.reduceSub, Nat.reduceMul, Int.reduceEq, Nat.reduceBEq, t4414, t4415, t4419, t4420, t4421, t4422, t4423, t4424, ht4417, hn7, hn39, hn3359, hia4428, hn4441, hb4440])
        have t4880 : T4765 9 = v3288 := by rw [ho4767.get rfl]; (try simp only [go_sem, ↓reduceIte, Nat.reduceEqDiff, reduceCtorEq, Nat.reduceAdd, Nat.reduceLeDiff, Nat.reduceSub, Nat.reduceMul, Int.reduceEq, Nat.reduceBEq, t4414, t4415, t4419, t4420, t4421, t4422, t4423, t4424, ht4417, hn7, hn39, hn3359, hia4428, hn4441, hb4440])
        have t4881 : T4765 13 = v4393 := by rw [ho4767.get rfl]; (try simp only [go_sem, ↓reduceIte, Nat.reduceEqDiff, reduceCtorEq, Nat.reduceAdd, Nat.reduceLeDiff, Nat.reduceSub, Nat.reduceMul, Int.reduceEq, Nat.reduceBEq, t4414, t4415, t4419, t4420, t4421, t4422, t4423, t4424, ht4417, hn7, hn39, hn3359, hia4428, hn4441, hb4440])
        have t4882 : T4765 14 = Value.int .i64 (i4416 : Int) := by rw [ho4767.get rfl]; (try simp only [go_sem, ↓reduceIte, Nat.reduceEqDiff, reduceCtorEq, Nat.reduceAdd, Nat.reduceLeDiff, Nat.reduceSub, Nat.reduceMul, Int.reduceEq, Nat.reduceBEq, t4414, t4415, t4419, t4420, t4421, t4422, t4423, t4424, ht4417, hn7, hn39, hn3359, hia4428, hn4441, hb4440])
        have t4883 : T4765 15 = Value.pointer (some ⟨b4432, 0, none⟩) := by rw [ho4767.get rfl]; (try simp only [go_sem, ↓reduceIte, Nat.reduceEqDiff, reduceCtorEq, Nat.reduceAdd, Nat.reduceLeDiff, Nat.reduceSub, Nat.reduceMul, Int.reduceEq, Nat.reduceBEq, t4414, t4415, t4419, t4420, t4421, t4422, t4423, t4424, ht4417, hn7, hn39, hn3359, hia4428, hn4441, hb4440])
        have t4884 : T4765 41 = vreturns_ := by rw [ho4767.get rfl]; (try simp only [go_sem, ↓reduceIte, Nat.reduceEqDiff, reduceCtorEq, Nat.reduceAdd, Nat.reduceLeDiff, Nat.reduceSub, Nat.reduceMul, Int.reduceEq, Nat.reduceBEq, t4414, t4415, t4419, t4420, t4421, t4422, t4423, t4424, ht4417, hn7, hn39, hn3359, hia4428, hn4441, hb4440])
        have t4885 : T4765 42 = Value.int .i64 (returns_.length : Int) := by rw [ho4767.get rfl]; (try simp only [go_sem, ↓reduceIte, Nat.reduceEqDiff, reduceCtorEq, Nat.reduceAdd, Nat.reduceLeDiff, Nat.reduceSub, Nat.reduceMul, Int.reduceEq, Nat.reduceBEq, t4414, t4415, t4419, t4420, t4421, t4422, t4423, t4424, ht4417, hn7, hn39, hn3359, hia4428, hn4441, hb4440])
        have t4886 : T4765 43 = Value.int .i64 (i4416 : Int) := by rw [ho4767.get rfl]; (try simp only [go_sem, ↓reduceIte, Nat.reduceEqDiff, reduceCtorEq, Nat.reduceAdd, Nat.reduceLeDiff, Nat.reduceSub, Nat.reduceMul, Int.reduceEq, Nat.reduceBEq, t4414, t4415, t4419, t4420, t4421, t4422, t4423, t4424, ht4417, hn7, hn39, hn3359, hia4428, hn4441, hb4440])
        have t4887 : T4765 50 = v15 := by rw [ho4767.get rfl]; (try simp only [go_sem, ↓reduceIte, Nat.reduceEqDiff, reduceCtorEq, Nat.reduceAdd, Nat.reduceLeDiff, Nat.reduceSub, Nat.reduceMul, Int.reduceEq, Nat.reduceBEq, t4414, t4415, t4419, t4420, t4421, t4422, t4423, t4424, ht4417, hn7, hn39, hn3359, hia4428, hn4441, hb4440])
        have t4888 : T4765 51 = Value.int .i64 (xs28.length : Int) := by rw [ho4767.get rfl]; (try simp only [go_sem, ↓reduceIte, Nat.reduceEqDiff, reduceCtorEq, Nat.reduceAdd, Nat.reduceLeDiff, Nat.reduceSub, Nat.reduceMul, Int.reduceEq, Nat.reduceBEq, t4414, t4415, t4419, t4420, t4421, t4422, t4423, t4424, ht4417, hn7, hn39, hn3359, hia4428, hn4441, hb4440])
        have h := hEI4762 x4746 xs4747 xs4752 xs4757 hI4769
        (try simp only [go_sem, ↓reduceIte, Nat.reduceEqDiff, reduceCtorEq, Nat.reduceAdd, Nat.reduceLeDiff, Nat.reduceSub, Nat.reduceMul, Int.reduceEq, Nat.reduceBEq, t4770, t4771, t4877, t4878, t4879, t4880, t4881, t4882, t4883, t4884, t4885, t4886, t4887, t4888, ht4773, hn7, hn39, hn3359, hia4428, hn4441])
        refine awL_bsl1 [Value.int .i64 (IntKind.i64.wrap x4746)] hl4766 hL4768 (by (try simp only [go_sem, ↓reduceIte, Nat.reduceEqDiff, reduceCtorEq, Nat.reduceAdd, Nat.reduceLeDiff, Nat.reduceSub, Nat.reduceMul, Int.reduceEq, Nat.reduceBEq, t4770, t4771, t4877, t4878, t4879, t4880, t4881, t4882, t4883, t4884, t4885, t4886, t4887, t4888, ht4773, hn7, hn39, hn3359, hia4428, hn4441]) <;> rfl) rfl rfl fun b4892 v4893 H4889 hl4890 hL4891 => ?_
        have hr4894 : Rows (RI .i64) H [(IntKind.i64.wrap x4746)] [[Value.int .i64 (IntKind.i64.wrap x4746)]] := (Rows.nil (RI .i64) H).snoc (show (RI .i64) H (IntKind.i64.wrap x4746) [Value.int .i64 (IntKind.i64.wrap x4746)] from rfl)
        obtain ⟨hc4896, h⟩ := h
        (try simp only [go_sem, ↓reduceIte, Nat.reduceEqDiff, reduceCtorEq, Nat.reduceAdd, Nat.reduceLeDiff, Nat.reduceSub, Nat.reduceMul, Int.reduceEq, Nat.reduceBEq, t4770, t4771, t4877, t4878, t4879, t4880, t4881, t4882, t4883, t4884, t4885, t4886, t4887, t4888, ht4773, hn7, hn39, hn3359, hia4428, hn4441])
        refine awL_app1 2 0 hl4890 hL4891 rfl rfl (by (try simp only [go_sem, ↓reduceIte, Nat.reduceEqDiff, reduceCtorEq, Nat.reduceAdd, Nat.reduceLeDiff, Nat.reduceSub, Nat.reduceMul, Int.reduceEq, Nat.reduceBEq, t4770, t4771, t4877, t4878, t4879, t4880, t4881, t4882, t4883, t4884, t4885, t4886, t4887, t4888, ht4773, hn7, hn39, hn3359, hia4428, hn4441]) <;> rfl) (by (try simp only [go_sem, ↓reduceIte, Nat.reduceEqDiff, reduceCtorEq, Nat.reduceAdd, Nat.reduceLeDiff, Nat.reduceSub, Nat.reduceMul, Int.reduceEq, Nat.reduceBEq, t4770, t4771, t4877, t4878, t4879, t4880, t4881, t4882, t4883, t4884, t4885, t4886, t4887, t4888, ht4773, hn7, hn39, hn3359, hia4428, hn4441]) <;> rfl) rfl (by omega) (by rw [hr4751.1]; exact hc4896) fun kb4900 v4901 H4897 hl4898 hL4899 => ?_
        have hr4902 := hr4751.snoc (show (RI .i64) H (IntKind.i64.wrap x4746) [Value.int .i64 (IntKind.i64.wrap x4746)] from rfl)
        (try simp only [go_sem, ↓reduceIte, Nat.reduceEqDiff, reduceCtorEq, Nat.reduceAdd, Nat.reduceLeDiff, Nat.reduceSub, Nat.reduceMul, Int.reduceEq, Nat.reduceBEq, t4770, t4771, t4877, t4878, t4879, t4880, t4881, t4882, t4883, t4884, t4885, t4886, t4887, t4888, ht4773, hn7, hn39, hn3359, hia4428, hn4441])
        exact ⟨H4897, Hp.sub.refl _, (xs4747 ++ [(IntKind.i64.wrap x4746)]), xs4752, xs4757, kb4900, v4901, (rows4750 ++ [[Value.int .i64 (IntKind.i64.wrap x4746)]]), kb4753, v4754, rows4755, rows4760, h, (by (try simp only [go_sem, ↓reduceIte, Nat.reduceEqDiff, reduceCtorEq, Nat.reduceAdd, Nat.reduceLeDiff, Nat.reduceSub, Nat.reduceMul, Int.reduceEq, Nat.reduceBEq, t4770, t4771, t4877, t4878, t4879, t4880, t4881, t4882, t4883, t4884, t4885, t4886, t4887, t4888, ht4773, hn7, hn39, hn3359, hia4428, hn4441]) <;> rfl), (by (try simp only [go_sem, ↓reduceIte, Nat.reduceEqDiff, reduceCtorEq, Nat.reduceAdd, Nat.reduceLeDiff, Nat.reduceSub, Nat.reduceMul, Int.reduceEq, Nat.reduceBEq, t4770, t4771, t4877, t4878, t4879, t4880, t4881, t4882, t4883, t4884, t4885, t4886, t4887, t4888, ht4773, hn7, hn39, hn3359, hia4428, hn4441]) <;> rfl), (hL4899.sel [2, 3, 4, 5, 6] (by decide)), hr4902, hr4756, hr4761⟩
    · rintro T4409 H4408 hl4410 ho4411 ht4417 ⟨xs4391, xs4396, xs4401, kb4392, v4393, rows4394, kb4397, v4398, rows4399, rows4404, hI4413, t4414, t4415, hL4412, hr4395, hr4400, hr4405⟩
      have t4903 : T4409 2 = Value.int .i64 days_ := by rw [ho4411.get rfl]; (try simp only [go_sem, ↓reduceIte, Nat.reduceEqDiff, reduceCtorEq, Nat.reduceAdd, Nat.reduceLeDiff, Nat.reduceSub, Nat.reduceMul, Int.reduceEq, Nat.reduceBEq, t3299, t3339, t3340, t3341, t3342, t3343, t3344, ht3301, hn7, hn39, hn3359])
      have t4904 : T4409 3 = Value.pointer (some ⟨b1, 0, none⟩) := by rw [ho4411.get rfl]; (try simp only [go_sem, ↓reduceIte, Nat.reduceEqDiff, reduceCtorEq, Nat.reduceAdd, Nat.reduceLeDiff, Nat.reduceSub, Nat.reduceMul, Int.reduceEq, Nat.reduceBEq, t3299, t3339, t3340, t3341, t3342, t3343, t3344, ht3301, hn7, hn39, hn3359])
      have t4905 : T4409 8 = v15 := by rw [ho4411.get rfl]; (try simp only [go_sem, ↓reduceIte, Nat.reduceEqDiff, reduceCtorEq, Nat.reduceAdd, Nat.reduceLeDiff, Nat.reduceSub, Nat.reduceMul, Int.reduceEq, Nat.reduceBEq, t3299, t3339, t3340, t3341, t3342, t3343, t3344, ht3301, hn7, hn39, hn3359])
      have t4906 : T4409 9 = v3288 := by rw [ho4411.get rfl]; (try simp only [go_sem, ↓reduceIte, Nat.reduceEqDiff, reduceCtorEq, Nat.reduceAdd, Nat.reduceLeDiff, Nat.reduceSub, Nat.reduceMul, Int.reduceEq, Nat.reduceBEq, t3299, t3339, t3340, t3341, t3342, t3343, t3344, ht3301, hn7, hn39, hn3359])
      have t4907 : T4409 41 = vreturns_ := by rw [ho4411.get rfl]; (try simp only [go_sem, ↓reduceIte, Nat.reduceEqDiff, reduceCtorEq, Nat.reduceAdd, Nat.reduceLeDiff, Nat.reduceSub, Nat.reduceMul, Int.reduceEq, Nat.reduceBEq, t3299, t3339, t3340, t3341, t3342, t3343, t3344, ht3301, hn7, hn39, hn3359])
      have t4908 : T4409 42 = Value.int .i64 (returns_.length : Int) := by rw [ho4411.get rfl]; (try simp only [go_sem, ↓reduceIte, Nat.reduceEqDiff, reduceCtorEq, Nat.reduceAdd, Nat.reduceLeDiff, Nat.reduceSub, Nat.reduceMul, Int.reduceEq, Nat.reduceBEq, t3299, t3339, t3340, t3341, t3342, t3343, t3344, ht3301, hn7, hn39, hn3359])
      have h := hEI4406 xs4391 xs4396 xs4401 hI4413
      (try simp only [go_sem, ↓reduceIte, Nat.reduceEqDiff, reduceCtorEq, Nat.reduceAdd, Nat.reduceLeDiff, Nat.reduceSub, Nat.reduceMul, Int.reduceEq, Nat.reduceBEq, t4414, t4415, t4903, t4904, t4905, t4906, t4907, t4908, ht4417, hn7, hn39, hn3359])
      exact retQ_r2 (by (try simp only [go_sem, ↓reduceIte, Nat.reduceEqDiff, reduceCtorEq, Nat.reduceAdd, Nat.reduceLeDiff, Nat.reduceSub, Nat.reduceMul, Int.reduceEq, Nat.reduceBEq, t4414, t4415, t4903, t4904, t4905, t4906, t4907, t4908, ht4417, hn7, hn39, hn3359]) <;> rfl) (by (try simp only [go_sem, ↓reduceIte, Nat.reduceEqDiff, reduceCtorEq, Nat.reduceAdd, Nat.reduceLeDiff, Nat.reduceSub, Nat.reduceMul, Int.reduceEq, Nat.reduceBEq, t4414, t4415, t4903, t4904, t4905, t4906, t4907, t4908, ht4417, hn7, hn39, hn3359]) <;> rfl) H4408 (Hp.sub.refl _) (hK _ _ h H4408 kb4397 v4398 rows4399 kb4392 v4393 rows4394 hl4410 (hL4412.sel [1, 0] (by decide)) hr4400 hr4395)
def w_impl_LeftOver (orders_ : (List S_Order)) (returns_ : (List S_Return)) (days_ : Int) (Q : (List Int) → Int → Prop) : Prop := orders_.length ≤ 1152921504606846976 → returns_.length ≤ 1152921504606846976 → (w_impl_daysCode orders_ returns_ days_ fun r1 => (((!decide (r1 = 0)) = true → Q ([]) r1) ∧ ((!decide (r1 = 0)) = false → (w_impl_matches orders_ returns_ days_ fun r7 r8 => Q r8 0))))
theorem k_impl_LeftOver {orders_ : (List S_Order)} {returns_ : (List S_Return)} {days_ : Int} {Q : (List Int) → Int → Prop} (h : w_impl_LeftOver orders_ returns_ days_ Q) {H : Hp} {vorders_ : Value} (rorders_ : SlR R_Order 5 H orders_ vorders_) {vreturns_ : Value} (rreturns_ : SlR R_Return 4 H returns_ vreturns_) {K : Value → Hp → Prop} (hK : ∀ (r0 : (List Int)) (r1 : Int), Q r0 r1 → ∀ (H' : Hp) (kb0 : Option Nat) (v0 : Value) (rows0 : List (List Value)), Live H' → Loc H H' [.own kb0 2 1 v0 rows0] → Rows (RI .i64) H r0 rows0 → K (.tuple #[v0, Value.int .i64 r1]) H') :
    ACalls Go.Proofs.Try.prog n_impl_LeftOver #[vorders_, vreturns_, Value.int .i64 days_] H K := by
  unfold w_impl_LeftOver at h
  have h := h rorders_.le
  have h := h rreturns_.le
  refine acalls_go fn_impl_LeftOver rfl fun hl => ?_
  simp only [c_impl_LeftOver]
  have hL := Loc.nil H
  (try simp only [go_sem, ↓reduceIte, Nat.reduceEqDiff, reduceCtorEq, Nat.reduceAdd, Nat.reduceLeDiff, Nat.reduceSub, Nat.reduceMul, Int.reduceEq, Nat.reduceBEq])
  refine aw_call (by (try simp only [go_sem, ↓reduceIte, Nat.reduceEqDiff, reduceCtorEq, Nat.reduceAdd, Nat.reduceLeDiff, Nat.reduceSub, Nat.reduceMul, Int.reduceEq, Nat.reduceBEq]) <;> rfl) (by (try simp only [go_sem, ↓reduceIte, Nat.reduceEqDiff, reduceCtorEq, Nat.reduceAdd, Nat.reduceLeDiff, Nat.reduceSub, Nat.reduceMul, Int.reduceEq, Nat.reduceBEq]) <;> rfl) (k_impl_daysCode h (rorders_.sub R_Order.ok hL.sub) (rreturns_.sub R_Return.ok hL.sub) fun r1 h => ?_)
  (try simp only [go_sem, ↓reduceIte, Nat.reduceEqDiff, reduceCtorEq, Nat.reduceAdd, Nat.reduceLeDiff, Nat.reduceSub, Nat.reduceMul, Int.reduceEq, Nat.reduceBEq])
  cases hc3 : (!decide (r1 = 0)) with
  | true =>
    have h := h.1 hc3
    (try simp only [go_sem, ↓reduceIte, Nat.reduceEqDiff, reduceCtorEq, Nat.reduceAdd, Nat.reduceLeDiff, Nat.reduceSub, Nat.reduceMul, Int.reduceEq, Nat.reduceBEq, hc3])
    have hL4 := hL.nils 2 1
    have hr5 := Rows.nil (RI .i64) H
    exact retQ_r2 (by (try simp only [go_sem, ↓reduceIte, Nat.reduceEqDiff, reduceCtorEq, Nat.reduceAdd, Nat.reduceLeDiff, Nat.reduceSub, Nat.reduceMul, Int.reduceEq, Nat.reduceBEq, hc3]) <;> rfl) (by (try simp only [go_sem, ↓reduceIte, Nat.reduceEqDiff, reduceCtorEq, Nat.reduceAdd, Nat.reduceLeDiff, Nat.reduceSub, Nat.reduceMul, Int.reduceEq, Nat.reduceBEq, hc3]) <;> rfl) H (Hp.sub.refl _) (hK _ _ h H none (.slice none 0 0) [] hl (hL4.sel [0] (by decide)) hr5)
  | false =>
    have h := h.2 hc3
    (try simp only [go_sem, ↓reduceIte, Nat.reduceEqDiff, reduceCtorEq, Nat.reduceAdd, Nat.reduceLeDiff, Nat.reduceSub, Nat.reduceMul, Int.reduceEq, Nat.reduceBEq, hc3])
    refine aw_callL (by (try simp only [go_sem, ↓reduceIte, Nat.reduceEqDiff, reduceCtorEq, Nat.reduceAdd, Nat.reduceLeDiff, Nat.reduceSub, Nat.reduceMul, Int.reduceEq, Nat.reduceBEq, hc3]) <;> rfl) (by (try simp only [go_sem, ↓reduceIte, Nat.reduceEqDiff, reduceCtorEq, Nat.reduceAdd, Nat.reduceLeDiff, Nat.reduceSub, Nat.reduceMul, Int.reduceEq, Nat.reduceBEq, hc3]) <;> rfl) (k_impl_matches h (rorders_.sub R_Order.ok hL.sub) (rreturns_.sub R_Return.ok hL.sub) fun r7 r8 h H10 kb14 v15 rows16 kb19 v20 rows21 _ hL12 hr17 hr22 hl11 => ?_)
    have hL13 := hL.call hL12
    have hr17' : Rows R_Match H r7 rows16 := Rows.flat (fun _ _ hx => hx) hr17
    have hr22' : Rows (RI .i64) H r8 rows21 := Rows.flat (fun _ _ hx => hx) hr22
    (try simp only [go_sem, ↓reduceIte, Nat.reduceEqDiff, reduceCtorEq, Nat.reduceAdd, Nat.reduceLeDiff, Nat.reduceSub, Nat.reduceMul, Int.reduceEq, Nat.reduceBEq, hc3])
    exact retQ_r2 (by (try simp only [go_sem, ↓reduceIte, Nat.reduceEqDiff, reduceCtorEq, Nat.reduceAdd, Nat.reduceLeDiff, Nat.reduceSub, Nat.reduceMul, Int.reduceEq, Nat.reduceBEq, hc3]) <;> rfl) (by (try simp only [go_sem, ↓reduceIte, Nat.reduceEqDiff, reduceCtorEq, Nat.reduceAdd, Nat.reduceLeDiff, Nat.reduceSub, Nat.reduceMul, Int.reduceEq, Nat.reduceBEq, hc3]) <;> rfl) H10 (Hp.sub.refl _) (hK _ _ h H10 kb19 v20 rows21 hl11 (hL13.sel [1] (by decide)) hr22')
def w_laws_eqInt64S (a_ : (List Int)) (b_ : (List Int)) (Q : Bool → Prop) : Prop := a_.length ≤ 1152921504606846976 → b_.length ≤ 1152921504606846976 → (((!decide ((a_.length : Int) = (b_.length : Int))) = true → Q false) ∧ ((!decide ((a_.length : Int) = (b_.length : Int))) = false → (∃ I37 : Nat → Int → Prop, (∃ m, I37 m 0) ∧ (∀ (m46 : Nat) (x36 : Int), I37 m46 x36 → (((decide (x36 < (a_.length : Int))) = true → (In x36 a_.length ∧ (In x36 b_.length ∧ (((!decide ((gt a_ x36) = (gt b_ x36))) = true → Q false) ∧ ((!decide ((gt a_ x36) = (gt b_ x36))) = false → (∃ m47, m47 < m46 ∧ I37 m47 (IntKind.i64.wrap (x36 + 1)))))))) ∧ ((decide (x36 < (a_.length : Int))) = false → Q true))))))
theorem k_laws_eqInt64S {a_ : (List Int)} {b_ : (List Int)} {Q : Bool → Prop} (h : w_laws_eqInt64S a_ b_ Q) {H : Hp} {va_ : Value} (ra_ : SlR (RI .i64) 1 H a_ va_) {vb_ : Value} (rb_ : SlR (RI .i64) 1 H b_ vb_) {K : Value → Hp → Prop} (hK : ∀ (r0 : Bool), Q r0 → K (Value.bool r0) H) :
    ACalls Go.Proofs.Try.prog n_laws_eqInt64S #[va_, vb_] H K := by
  unfold w_laws_eqInt64S at h
  have h := h ra_.le
  have h := h rb_.le
  refine acalls_go fn_laws_eqInt64S rfl fun hl => ?_
  simp only [c_laws_eqInt64S]
  have hL := Loc.nil H
  have hn1 := ra_.len
  have hn2 := rb_.len
  (try simp only [go_sem, ↓reduceIte, Nat.reduceEqDiff, reduceCtorEq, Nat.reduceAdd, Nat.reduceLeDiff, Nat.reduceSub, Nat.reduceMul, Int.reduceEq, Nat.reduceBEq, hn1, hn2])
  cases hc3 : (!decide ((a_.length : Int) = (b_.length : Int))) with
  | true =>
    have h := h.1 hc3
    (try simp only [go_sem, ↓reduceIte, Nat.reduceEqDiff, reduceCtorEq, Nat.reduceAdd, Nat.reduceLeDiff, Nat.reduceSub, Nat.reduceMul, Int.reduceEq, Nat.reduceBEq, hn1, hn2, hc3])
    exact retQ_r1 (by (try simp only [go_sem, ↓reduceIte, Nat.reduceEqDiff, reduceCtorEq, Nat.reduceAdd, Nat.reduceLeDiff, Nat.reduceSub, Nat.reduceMul, Int.reduceEq, Nat.reduceBEq, hn1, hn2, hc3]) <;> rfl) H hL.sub (hK _ h)
  | false =>
    have h := h.2 hc3
    (try simp only [go_sem, ↓reduceIte, Nat.reduceEqDiff, reduceCtorEq, Nat.reduceAdd, Nat.reduceLeDiff, Nat.reduceSub, Nat.reduceMul, Int.reduceEq, Nat.reduceBEq, hn1, hn2, hc3])
    obtain ⟨I37, ⟨m0, h0⟩, hSI37⟩ := h
    refine aw_loopM hl (fun m46 T' H' => ∃ x36, I37 m46 x36 ∧ T' 5 = Value.int .i64 x36 ∧ Loc H H' []) m0 H (Hp.sub.refl _) ⟨0, h0, (by (try simp only [go_sem, ↓reduceIte, Nat.reduceEqDiff, reduceCtorEq, Nat.reduceAdd, Nat.reduceLeDiff, Nat.reduceSub, Nat.reduceMul, Int.reduceEq, Nat.reduceBEq, hn1, hn2, hc3]) <;> rfl), hL⟩ ?_
    rintro m46 T40 H39 hl41 ho42 ⟨x36, hI44, t45, hL43⟩
    have t49 : T40 0 = va_ := by rw [ho42.get rfl]; (try simp only [go_sem, ↓reduceIte, Nat.reduceEqDiff, reduceCtorEq, Nat.reduceAdd, Nat.reduceLeDiff, Nat.reduceSub, Nat.reduceMul, Int.reduceEq, Nat.reduceBEq, hn1, hn2, hc3])
    have t50 : T40 1 = vb_ := by rw [ho42.get rfl]; (try simp only [go_sem, ↓reduceIte, Nat.reduceEqDiff, reduceCtorEq, Nat.reduceAdd, Nat.reduceLeDiff, Nat.reduceSub, Nat.reduceMul, Int.reduceEq, Nat.reduceBEq, hn1, hn2, hc3])
    have h := hSI37 m46 x36 hI44
    have hn51 := ra_.len
    (try simp only [go_sem, ↓reduceIte, Nat.reduceEqDiff, reduceCtorEq, Nat.reduceAdd, Nat.reduceLeDiff, Nat.reduceSub, Nat.reduceMul, Int.reduceEq, Nat.reduceBEq, t45, t49, t50, hn1, hn2, hc3, hn51])
    cases hc52 : (decide (x36 < (a_.length : Int))) with
    | true =>
      have h := h.1 hc52
      obtain ⟨hi53, h⟩ := h
      obtain ⟨b54, o59, c55, hia56, hrd57, hR58⟩ := SlR.atB ra_ hL43.sub (k := .i64) hi53
      obtain rfl : c55 = [Value.int .i64 (gt a_ x36)] := hR58
      obtain ⟨hi60, h⟩ := h
      obtain ⟨b61, o66, c62, hia63, hrd64, hR65⟩ := SlR.atB rb_ hL43.sub (k := .i64) hi60
      obtain rfl : c62 = [Value.int .i64 (gt b_ x36)] := hR65
      (try simp only [go_sem, ↓reduceIte, Nat.reduceEqDiff, reduceCtorEq, Nat.reduceAdd, Nat.reduceLeDiff, Nat.reduceSub, Nat.reduceMul, Int.reduceEq, Nat.reduceBEq, t45, t49, t50, hn1, hn2, hc3, hn51, hc52, hia56, hia63, hrd57, hrd64])
      cases hc67 : (!decide ((gt a_ x36) = (gt b_ x36))) with
      | true =>
        have h := h.1 hc67
        (try simp only [go_sem, ↓reduceIte, Nat.reduceEqDiff, reduceCtorEq, Nat.reduceAdd, Nat.reduceLeDiff, Nat.reduceSub, Nat.reduceMul, Int.reduceEq, Nat.reduceBEq, t45, t49, t50, hn1, hn2, hc3, hn51, hc52, hia56, hia63, hc67, hrd57, hrd64])
        exact retQ_r1 (by (try simp only [go_sem, ↓reduceIte, Nat.reduceEqDiff, reduceCtorEq, Nat.reduceAdd, Nat.reduceLeDiff, Nat.reduceSub, Nat.reduceMul, Int.reduceEq, Nat.reduceBEq, t45, t49, t50, hn1, hn2, hc3, hn51, hc52, hia56, hia63, hc67, hrd57, hrd64]) <;> rfl) H hL43.sub (hK _ h)
      | false =>
        have h := h.2 hc67
        obtain ⟨m47, hm48, h⟩ := h
        (try simp only [go_sem, ↓reduceIte, Nat.reduceEqDiff, reduceCtorEq, Nat.reduceAdd, Nat.reduceLeDiff, Nat.reduceSub, Nat.reduceMul, Int.reduceEq, Nat.reduceBEq, t45, t49, t50, hn1, hn2, hc3, hn51, hc52, hia56, hia63, hc67, hrd57, hrd64])
        exact ⟨m47, H39, hm48, Hp.sub.refl _, (IntKind.i64.wrap (x36 + 1)), h, (by (try simp only [go_sem, ↓reduceIte, Nat.reduceEqDiff, reduceCtorEq, Nat.reduceAdd, Nat.reduceLeDiff, Nat.reduceSub, Nat.reduceMul, Int.reduceEq, Nat.reduceBEq, t45, t49, t50, hn1, hn2, hc3, hn51, hc52, hia56, hia63, hc67, hrd57, hrd64]) <;> rfl), hL43⟩
    | false =>
      have h := h.2 hc52
      (try simp only [go_sem, ↓reduceIte, Nat.reduceEqDiff, reduceCtorEq, Nat.reduceAdd, Nat.reduceLeDiff, Nat.reduceSub, Nat.reduceMul, Int.reduceEq, Nat.reduceBEq, t45, t49, t50, hn1, hn2, hc3, hn51, hc52])
      exact retQ_r1 (by (try simp only [go_sem, ↓reduceIte, Nat.reduceEqDiff, reduceCtorEq, Nat.reduceAdd, Nat.reduceLeDiff, Nat.reduceSub, Nat.reduceMul, Int.reduceEq, Nat.reduceBEq, t45, t49, t50, hn1, hn2, hc3, hn51, hc52]) <;> rfl) H hL43.sub (hK _ h)
def w_laws_eqOrder (a_ : S_Order) (b_ : S_Order) (Q : Bool → Prop) : Prop := (((!decide (a_.fBuyer = b_.fBuyer)) = true → Q false) ∧ ((!decide (a_.fBuyer = b_.fBuyer)) = false → (((!decide (a_.fItem = b_.fItem)) = true → Q false) ∧ ((!decide (a_.fItem = b_.fItem)) = false → (((!decide (a_.fNumber = b_.fNumber)) = true → Q false) ∧ ((!decide (a_.fNumber = b_.fNumber)) = false → (((!decide (a_.fPrice = b_.fPrice)) = true → Q false) ∧ ((!decide (a_.fPrice = b_.fPrice)) = false → (((!decide (a_.fDay = b_.fDay)) = true → Q false) ∧ ((!decide (a_.fDay = b_.fDay)) = false → Q true))))))))))
theorem k_laws_eqOrder {a_ : S_Order} {b_ : S_Order} {Q : Bool → Prop} (h : w_laws_eqOrder a_ b_ Q) {H : Hp} {csa_ : List Value} (ra_ : R_Order H a_ csa_) {csb_ : List Value} (rb_ : R_Order H b_ csb_) {K : Value → Hp → Prop} (hK : ∀ (r0 : Bool), Q r0 → K (Value.bool r0) H) :
    ACalls Go.Proofs.Try.prog n_laws_eqOrder #[.agg csa_.toArray, .agg csb_.toArray] H K := by
  unfold w_laws_eqOrder at h
  obtain rfl : csa_ = [Value.int .i8 a_.fBuyer, Value.int .i8 a_.fItem, Value.int .i16 a_.fNumber, Value.int .i16 a_.fPrice, Value.int .i16 a_.fDay] := ra_
  obtain rfl : csb_ = [Value.int .i8 b_.fBuyer, Value.int .i8 b_.fItem, Value.int .i16 b_.fNumber, Value.int .i16 b_.fPrice, Value.int .i16 b_.fDay] := rb_
  refine acalls_go fn_laws_eqOrder rfl fun hl => ?_
  simp only [c_laws_eqOrder]
  have hL := Loc.nil H
  (try simp only [go_sem, ↓reduceIte, Nat.reduceEqDiff, reduceCtorEq, Nat.reduceAdd, Nat.reduceLeDiff, Nat.reduceSub, Nat.reduceMul, Int.reduceEq, Nat.reduceBEq])
  refine awL_box [Value.int .i8 a_.fBuyer, Value.int .i8 a_.fItem, Value.int .i16 a_.fNumber, Value.int .i16 a_.fPrice, Value.int .i16 a_.fDay] hl hL (by (try simp only [go_sem, ↓reduceIte, Nat.reduceEqDiff, reduceCtorEq, Nat.reduceAdd, Nat.reduceLeDiff, Nat.reduceSub, Nat.reduceMul, Int.reduceEq, Nat.reduceBEq]) <;> rfl) fun b1 H2 hl3 hL4 => ?_
  (try simp only [go_sem, ↓reduceIte, Nat.reduceEqDiff, reduceCtorEq, Nat.reduceAdd, Nat.reduceLeDiff, Nat.reduceSub, Nat.reduceMul, Int.reduceEq, Nat.reduceBEq])
  refine awL_box [Value.int .i8 b_.fBuyer, Value.int .i8 b_.fItem, Value.int .i16 b_.fNumber, Value.int .i16 b_.fPrice, Value.int .i16 b_.fDay] hl3 hL4 (by (try simp only [go_sem, ↓reduceIte, Nat.reduceEqDiff, reduceCtorEq, Nat.reduceAdd, Nat.reduceLeDiff, Nat.reduceSub, Nat.reduceMul, Int.reduceEq, Nat.reduceBEq]) <;> rfl) fun b6 H7 hl8 hL9 => ?_
  have hb11 := hL9.box 1 rfl
  have hb12 := hL9.box 0 rfl
  (try simp only [go_sem, ↓reduceIte, Nat.reduceEqDiff, reduceCtorEq, Nat.reduceAdd, Nat.reduceLeDiff, Nat.reduceSub, Nat.reduceMul, Int.reduceEq, Nat.reduceBEq, hb11, hb12])
  cases hc13 : (!decide (a_.fBuyer = b_.fBuyer)) with
  | true =>
    have h := h.1 hc13
    (try simp only [go_sem, ↓reduceIte, Nat.reduceEqDiff, reduceCtorEq, Nat.reduceAdd, Nat.reduceLeDiff, Nat.reduceSub, Nat.reduceMul, Int.reduceEq, Nat.reduceBEq, hc13, hb11, hb12])
    exact retQ_r1 (by (try simp only [go_sem, ↓reduceIte, Nat.reduceEqDiff, reduceCtorEq, Nat.reduceAdd, Nat.reduceLeDiff, Nat.reduceSub, Nat.reduceMul, Int.reduceEq, Nat.reduceBEq, hc13, hb11, hb12]) <;> rfl) H hL9.sub (hK _ h)
  | false =>
    have h := h.2 hc13
    (try simp only [go_sem, ↓reduceIte, Nat.reduceEqDiff, reduceCtorEq, Nat.reduceAdd, Nat.reduceLeDiff, Nat.reduceSub, Nat.reduceMul, Int.reduceEq, Nat.reduceBEq, hc13, hb11, hb12])
    cases hc14 : (!decide (a_.fItem = b_.fItem)) with
    | true =>
      have h := h.1 hc14
      (try simp only [go_sem, ↓reduceIte, Nat.reduceEqDiff, reduceCtorEq, Nat.reduceAdd, Nat.reduceLeDiff, Nat.reduceSub, Nat.reduceMul, Int.reduceEq, Nat.reduceBEq, hc13, hc14, hb11, hb12])
      exact retQ_r1 (by (try simp only [go_sem, ↓reduceIte, Nat.reduceEqDiff, reduceCtorEq, Nat.reduceAdd, Nat.reduceLeDiff, Nat.reduceSub, Nat.reduceMul, Int.reduceEq, Nat.reduceBEq, hc13, hc14, hb11, hb12]) <;> rfl) H hL9.sub (hK _ h)
    | false =>
      have h := h.2 hc14
      (try simp only [go_sem, ↓reduceIte, Nat.reduceEqDiff, reduceCtorEq, Nat.reduceAdd, Nat.reduceLeDiff, Nat.reduceSub, Nat.reduceMul, Int.reduceEq, Nat.reduceBEq, hc13, hc14, hb11, hb12])
      cases hc15 : (!decide (a_.fNumber = b_.fNumber)) with
      | true =>
        have h := h.1 hc15
        (try simp only [go_sem, ↓reduceIte, Nat.reduceEqDiff, reduceCtorEq, Nat.reduceAdd, Nat.reduceLeDiff, Nat.reduceSub, Nat.reduceMul, Int.reduceEq, Nat.reduceBEq, hc13, hc14, hc15, hb11, hb12])
        exact retQ_r1 (by (try simp only [go_sem, ↓reduceIte, Nat.reduceEqDiff, reduceCtorEq, Nat.reduceAdd, Nat.reduceLeDiff, Nat.reduceSub, Nat.reduceMul, Int.reduceEq, Nat.reduceBEq, hc13, hc14, hc15, hb11, hb12]) <;> rfl) H hL9.sub (hK _ h)
      | false =>
        have h := h.2 hc15
        (try simp only [go_sem, ↓reduceIte, Nat.reduceEqDiff, reduceCtorEq, Nat.reduceAdd, Nat.reduceLeDiff, Nat.reduceSub, Nat.reduceMul, Int.reduceEq, Nat.reduceBEq, hc13, hc14, hc15, hb11, hb12])
        cases hc16 : (!decide (a_.fPrice = b_.fPrice)) with
        | true =>
          have h := h.1 hc16
          (try simp only [go_sem, ↓reduceIte, Nat.reduceEqDiff, reduceCtorEq, Nat.reduceAdd, Nat.reduceLeDiff, Nat.reduceSub, Nat.reduceMul, Int.reduceEq, Nat.reduceBEq, hc13, hc14, hc15, hc16, hb11, hb12])
          exact retQ_r1 (by (try simp only [go_sem, ↓reduceIte, Nat.reduceEqDiff, reduceCtorEq, Nat.reduceAdd, Nat.reduceLeDiff, Nat.reduceSub, Nat.reduceMul, Int.reduceEq, Nat.reduceBEq, hc13, hc14, hc15, hc16, hb11, hb12]) <;> rfl) H hL9.sub (hK _ h)
        | false =>
          have h := h.2 hc16
          (try simp only [go_sem, ↓reduceIte, Nat.reduceEqDiff, reduceCtorEq, Nat.reduceAdd, Nat.reduceLeDiff, Nat.reduceSub, Nat.reduceMul, Int.reduceEq, Nat.reduceBEq, hc13, hc14, hc15, hc16, hb11, hb12])
          cases hc17 : (!decide (a_.fDay = b_.fDay)) with
          | true =>
            have h := h.1 hc17
            (try simp only [go_sem, ↓reduceIte, Nat.reduceEqDiff, reduceCtorEq, Nat.reduceAdd, Nat.reduceLeDiff, Nat.reduceSub, Nat.reduceMul, Int.reduceEq, Nat.reduceBEq, hc13, hc14, hc15, hc16, hc17, hb11, hb12])
            exact retQ_r1 (by (try simp only [go_sem, ↓reduceIte, Nat.reduceEqDiff, reduceCtorEq, Nat.reduceAdd, Nat.reduceLeDiff, Nat.reduceSub, Nat.reduceMul, Int.reduceEq, Nat.reduceBEq, hc13, hc14, hc15, hc16, hc17, hb11, hb12]) <;> rfl) H hL9.sub (hK _ h)
          | false =>
            have h := h.2 hc17
            (try simp only [go_sem, ↓reduceIte, Nat.reduceEqDiff, reduceCtorEq, Nat.reduceAdd, Nat.reduceLeDiff, Nat.reduceSub, Nat.reduceMul, Int.reduceEq, Nat.reduceBEq, hc13, hc14, hc15, hc16, hc17, hb11, hb12])
            exact retQ_r1 (by (try simp only [go_sem, ↓reduceIte, Nat.reduceEqDiff, reduceCtorEq, Nat.reduceAdd, Nat.reduceLeDiff, Nat.reduceSub, Nat.reduceMul, Int.reduceEq, Nat.reduceBEq, hc13, hc14, hc15, hc16, hc17, hb11, hb12]) <;> rfl) H hL9.sub (hK _ h)
def w_laws_eqOrderS (a_ : (List S_Order)) (b_ : (List S_Order)) (Q : Bool → Prop) : Prop := a_.length ≤ 1152921504606846976 → b_.length ≤ 1152921504606846976 → (((!decide ((a_.length : Int) = (b_.length : Int))) = true → Q false) ∧ ((!decide ((a_.length : Int) = (b_.length : Int))) = false → (∃ I39 : Nat → Int → Prop, (∃ m, I39 m 0) ∧ (∀ (m48 : Nat) (x38 : Int), I39 m48 x38 → (((decide (x38 < (a_.length : Int))) = true → (In x38 a_.length ∧ (In x38 b_.length ∧ (w_laws_eqOrder (gt a_ x38) (gt b_ x38) fun r69 => (((!r69) = true → Q false) ∧ ((!r69) = false → (∃ m49, m49 < m48 ∧ I39 m49 (IntKind.i64.wrap (x38 + 1))))))))) ∧ ((decide (x38 < (a_.length : Int))) = false → Q true))))))
theorem k_laws_eqOrderS {a_ : (List S_Order)} {b_ : (List S_Order)} {Q : Bool → Prop} (h : w_laws_eqOrderS a_ b_ Q) {H : Hp} {va_ : Value} (ra_ : SlR R_Order 5 H a_ va_) {vb_ : Value} (rb_ : SlR R_Order 5 H b_ vb_) {K : Value → Hp → Prop} (hK : ∀ (r0 : Bool), Q r0 → K (Value.bool r0) H) :
    ACalls Go.Proofs.Try.prog n_laws_eqOrderS #[va_, vb_] H K := by
  unfold w_laws_eqOrderS at h
  have h := h ra_.le
  have h := h rb_.le
  refine acalls_go fn_laws_eqOrderS rfl fun hl => ?_
  simp only [c_laws_eqOrderS]
  have hL := Loc.nil H
  have hn1 := ra_.len
  have hn2 := rb_.len
  (try simp only [go_sem, ↓reduceIte, Nat.reduceEqDiff, reduceCtorEq, Nat.reduceAdd, Nat.reduceLeDiff, Nat.reduceSub, Nat.reduceMul, Int.reduceEq, Nat.reduceBEq, hn1, hn2])
  cases hc3 : (!decide ((a_.length : Int) = (b_.length : Int))) with
  | true =>
    have h := h.1 hc3
    (try simp only [go_sem, ↓reduceIte, Nat.reduceEqDiff, reduceCtorEq, Nat.reduceAdd, Nat.reduceLeDiff, Nat.reduceSub, Nat.reduceMul, Int.reduceEq, Nat.reduceBEq, hn1, hn2, hc3])
    exact retQ_r1 (by (try simp only [go_sem, ↓reduceIte, Nat.reduceEqDiff, reduceCtorEq, Nat.reduceAdd, Nat.reduceLeDiff, Nat.reduceSub, Nat.reduceMul, Int.reduceEq, Nat.reduceBEq, hn1, hn2, hc3]) <;> rfl) H hL.sub (hK _ h)
  | false =>
    have h := h.2 hc3
    (try simp only [go_sem, ↓reduceIte, Nat.reduceEqDiff, reduceCtorEq, Nat.reduceAdd, Nat.reduceLeDiff, Nat.reduceSub, Nat.reduceMul, Int.reduceEq, Nat.reduceBEq, hn1, hn2, hc3])
    obtain ⟨I39, ⟨m0, h0⟩, hSI39⟩ := h
    refine aw_loopM hl (fun m48 T' H' => ∃ x38, I39 m48 x38 ∧ T' 5 = Value.int .i64 x38 ∧ Loc H H' []) m0 H (Hp.sub.refl _) ⟨0, h0, (by (try simp only [go_sem, ↓reduceIte, Nat.reduceEqDiff, reduceCtorEq, Nat.reduceAdd, Nat.reduceLeDiff, Nat.reduceSub, Nat.reduceMul, Int.reduceEq, Nat.reduceBEq, hn1, hn2, hc3]) <;> rfl), hL⟩ ?_
    rintro m48 T42 H41 hl43 ho44 ⟨x38, hI46, t47, hL45⟩
    have t51 : T42 0 = va_ := by rw [ho44.get rfl]; (try simp only [go_sem, ↓reduceIte, Nat.reduceEqDiff, reduceCtorEq, Nat.reduceAdd, Nat.reduceLeDiff, Nat.reduceSub, Nat.reduceMul, Int.reduceEq, Nat.reduceBEq, hn1, hn2, hc3])
    have t52 : T42 1 = vb_ := by rw [ho44.get rfl]; (try simp only [go_sem, ↓reduceIte, Nat.reduceEqDiff, reduceCtorEq, Nat.reduceAdd, Nat.reduceLeDiff, Nat.reduceSub, Nat.reduceMul, Int.reduceEq, Nat.reduceBEq, hn1, hn2, hc3])
    have h := hSI39 m48 x38 hI46
    have hn53 := ra_.len
    (try simp only [go_sem, ↓reduceIte, Nat.reduceEqDiff, reduceCtorEq, Nat.reduceAdd, Nat.reduceLeDiff, Nat.reduceSub, Nat.reduceMul, Int.reduceEq, Nat.reduceBEq, t47, t51, t52, hn1, hn2, hc3, hn53])
    cases hc54 : (decide (x38 < (a_.length : Int))) with
    | true =>
      have h := h.1 hc54
      obtain ⟨hi55, h⟩ := h
      obtain ⟨b56, o61, c57, hia58, hrd59, hR60⟩ := SlR.atB ra_ hL45.sub (k := .i64) hi55
      obtain rfl : c57 = [Value.int .i8 ((gt a_ x38).fBuyer), Value.int .i8 ((gt a_ x38).fItem), Value.int .i16 ((gt a_ x38).fNumber), Value.int .i16 ((gt a_ x38).fPrice), Value.int .i16 ((gt a_ x38).fDay)] := hR60
      obtain ⟨hi62, h⟩ := h
      obtain ⟨b63, o68, c64, hia65, hrd66, hR67⟩ := SlR.atB rb_ hL45.sub (k := .i64) hi62
      obtain rfl : c64 = [Value.int .i8 ((gt b_ x38).fBuyer), Value.int .i8 ((gt b_ x38).fItem), Value.int .i16 ((gt b_ x38).fNumber), Value.int .i16 ((gt b_ x38).fPrice), Value.int .i16 ((gt b_ x38).fDay)] := hR67
      (try simp only [go_sem, ↓reduceIte, Nat.reduceEqDiff, reduceCtorEq, Nat.reduceAdd, Nat.reduceLeDiff, Nat.reduceSub, Nat.reduceMul, Int.reduceEq, Nat.reduceBEq, t47, t51, t52, hn1, hn2, hc3, hn53, hc54, hia58, hia65, hrd59, hrd66])
      refine aw_call (by (try simp only [go_sem, ↓reduceIte, Nat.reduceEqDiff, reduceCtorEq, Nat.reduceAdd, Nat.reduceLeDiff, Nat.reduceSub, Nat.reduceMul, Int.reduceEq, Nat.reduceBEq, t47, t51, t52, hn1, hn2, hc3, hn53, hc54, hia58, hia65, hrd59, hrd66]) <;> rfl) (by (try simp only [go_sem, ↓reduceIte, Nat.reduceEqDiff, reduceCtorEq, Nat.reduceAdd, Nat.reduceLeDiff, Nat.reduceSub, Nat.reduceMul, Int.reduceEq, Nat.reduceBEq, t47, t51, t52, hn1, hn2, hc3, hn53, hc54, hia58, hia65, hrd59, hrd66]) <;> rfl) (k_laws_eqOrder h rfl rfl fun r69 h => ?_)
      (try simp only [go_sem, ↓reduceIte, Nat.reduceEqDiff, reduceCtorEq, Nat.reduceAdd, Nat.reduceLeDiff, Nat.reduceSub, Nat.reduceMul, Int.reduceEq, Nat.reduceBEq, t47, t51, t52, hn1, hn2, hc3, hn53, hc54, hia58, hia65, hrd59, hrd66])
      cases hc71 : (!r69) with
      | true =>
        have h := h.1 hc71
        (try simp only [go_sem, ↓reduceIte, Nat.reduceEqDiff, reduceCtorEq, Nat.reduceAdd, Nat.reduceLeDiff, Nat.reduceSub, Nat.reduceMul, Int.reduceEq, Nat.reduceBEq, t47, t51, t52, hn1, hn2, hc3, hn53, hc54, hia58, hia65, hc71, hrd59, hrd66])
        exact retQ_r1 (by (try simp only [go_sem, ↓reduceIte, Nat.reduceEqDiff, reduceCtorEq, Nat.reduceAdd, Nat.reduceLeDiff, Nat.reduceSub, Nat.reduceMul, Int.reduceEq, Nat.reduceBEq, t47, t51, t52, hn1, hn2, hc3, hn53, hc54, hia58, hia65, hc71, hrd59, hrd66]) <;> rfl) H hL45.sub (hK _ h)
      | false =>
        have h := h.2 hc71
        obtain ⟨m49, hm50, h⟩ := h
        (try simp only [go_sem, ↓reduceIte, Nat.reduceEqDiff, reduceCtorEq, Nat.reduceAdd, Nat.reduceLeDiff, Nat.reduceSub, Nat.reduceMul, Int.reduceEq, Nat.reduceBEq, t47, t51, t52, hn1, hn2, hc3, hn53, hc54, hia58, hia65, hc71, hrd59, hrd66])
        exact ⟨m49, H41, hm50, Hp.sub.refl _, (IntKind.i64.wrap (x38 + 1)), h, (by (try simp only [go_sem, ↓reduceIte, Nat.reduceEqDiff, reduceCtorEq, Nat.reduceAdd, Nat.reduceLeDiff, Nat.reduceSub, Nat.reduceMul, Int.reduceEq, Nat.reduceBEq, t47, t51, t52, hn1, hn2, hc3, hn53, hc54, hia58, hia65, hc71, hrd59, hrd66]) <;> rfl), hL45⟩
    | false =>
      have h := h.2 hc54
      (try simp only [go_sem, ↓reduceIte, Nat.reduceEqDiff, reduceCtorEq, Nat.reduceAdd, Nat.reduceLeDiff, Nat.reduceSub, Nat.reduceMul, Int.reduceEq, Nat.reduceBEq, t47, t51, t52, hn1, hn2, hc3, hn53, hc54])
      exact retQ_r1 (by (try simp only [go_sem, ↓reduceIte, Nat.reduceEqDiff, reduceCtorEq, Nat.reduceAdd, Nat.reduceLeDiff, Nat.reduceSub, Nat.reduceMul, Int.reduceEq, Nat.reduceBEq, t47, t51, t52, hn1, hn2, hc3, hn53, hc54]) <;> rfl) H hL45.sub (hK _ h)
def w_laws_eqReturn (a_ : S_Return) (b_ : S_Return) (Q : Bool → Prop) : Prop := (((!decide (a_.fBuyer = b_.fBuyer)) = true → Q false) ∧ ((!decide (a_.fBuyer = b_.fBuyer)) = false → (((!decide (a_.fItem = b_.fItem)) = true → Q false) ∧ ((!decide (a_.fItem = b_.fItem)) = false → (((!decide (a_.fNumber = b_.fNumber)) = true → Q false) ∧ ((!decide (a_.fNumber = b_.fNumber)) = false → (((!decide (a_.fDay = b_.fDay)) = true → Q false) ∧ ((!decide (a_.fDay = b_.fDay)) = false → Q true))))))))
theorem k_laws_eqReturn {a_ : S_Return} {b_ : S_Return} {Q : Bool → Prop} (h : w_laws_eqReturn a_ b_ Q) {H : Hp} {csa_ : List Value} (ra_ : R_Return H a_ csa_) {csb_ : List Value} (rb_ : R_Return H b_ csb_) {K : Value → Hp → Prop} (hK : ∀ (r0 : Bool), Q r0 → K (Value.bool r0) H) :
    ACalls Go.Proofs.Try.prog n_laws_eqReturn #[.agg csa_.toArray, .agg csb_.toArray] H K := by
  unfold w_laws_eqReturn at h
  obtain rfl : csa_ = [Value.int .i8 a_.fBuyer, Value.int .i8 a_.fItem, Value.int .i16 a_.fNumber, Value.int .i16 a_.fDay] := ra_
  obtain rfl : csb_ = [Value.int .i8 b_.fBuyer, Value.int .i8 b_.fItem, Value.int .i16 b_.fNumber, Value.int .i16 b_.fDay] := rb_
  refine acalls_go fn_laws_eqReturn rfl fun hl => ?_
  simp only [c_laws_eqReturn]
  have hL := Loc.nil H
  (try simp only [go_sem, ↓reduceIte, Nat.reduceEqDiff, reduceCtorEq, Nat.reduceAdd, Nat.reduceLeDiff, Nat.reduceSub, Nat.reduceMul, Int.reduceEq, Nat.reduceBEq])
  refine awL_box [Value.int .i8 a_.fBuyer, Value.int .i8 a_.fItem, Value.int .i16 a_.fNumber, Value.int .i16 a_.fDay] hl hL (by (try simp only [go_sem, ↓reduceIte, Nat.reduceEqDiff, reduceCtorEq, Nat.reduceAdd, Nat.reduceLeDiff, Nat.reduceSub, Nat.reduceMul, Int.reduceEq, Nat.reduceBEq]) <;> rfl) fun b1 H2 hl3 hL4 => ?_
  (try simp only [go_sem, ↓reduceIte, Nat.reduceEqDiff, reduceCtorEq, Nat.reduceAdd, Nat.reduceLeDiff, Nat.reduceSub, Nat.reduceMul, Int.reduceEq, Nat.reduceBEq])
  refine awL_box [Value.int .i8 b_.fBuyer, Value.int .i8 b_.fItem, Value.int .i16 b_.fNumber, Value.int .i16 b_.fDay] hl3 hL4 (by (try simp only [go_sem, ↓reduceIte, Nat.reduceEqDiff, reduceCtorEq, Nat.reduceAdd, Nat.reduceLeDiff, Nat.reduceSub, Nat.reduceMul, Int.reduceEq, Nat.reduceBEq]) <;> rfl) fun b6 H7 hl8 hL9 => ?_
  have hb11 := hL9.box 1 rfl
  have hb12 := hL9.box 0 rfl
  (try simp only [go_sem, ↓reduceIte, Nat.reduceEqDiff, reduceCtorEq, Nat.reduceAdd, Nat.reduceLeDiff, Nat.reduceSub, Nat.reduceMul, Int.reduceEq, Nat.reduceBEq, hb11, hb12])
  cases hc13 : (!decide (a_.fBuyer = b_.fBuyer)) with
  | true =>
    have h := h.1 hc13
    (try simp only [go_sem, ↓reduceIte, Nat.reduceEqDiff, reduceCtorEq, Nat.reduceAdd, Nat.reduceLeDiff, Nat.reduceSub, Nat.reduceMul, Int.reduceEq, Nat.reduceBEq, hc13, hb11, hb12])
    exact retQ_r1 (by (try simp only [go_sem, ↓reduceIte, Nat.reduceEqDiff, reduceCtorEq, Nat.reduceAdd, Nat.reduceLeDiff, Nat.reduceSub, Nat.reduceMul, Int.reduceEq, Nat.reduceBEq, hc13, hb11, hb12]) <;> rfl) H hL9.sub (hK _ h)
  | false =>
    have h := h.2 hc13
    (try simp only [go_sem, ↓reduceIte, Nat.reduceEqDiff, reduceCtorEq, Nat.reduceAdd, Nat.reduceLeDiff, Nat.reduceSub, Nat.reduceMul, Int.reduceEq, Nat.reduceBEq, hc13, hb11, hb12])
    cases hc14 : (!decide (a_.fItem = b_.fItem)) with
    | true =>
      have h := h.1 hc14
      (try simp only [go_sem, ↓reduceIte, Nat.reduceEqDiff, reduceCtorEq, Nat.reduceAdd, Nat.reduceLeDiff, Nat.reduceSub, Nat.reduceMul, Int.reduceEq, Nat.reduceBEq, hc13, hc14, hb11, hb12])
      exact retQ_r1 (by (try simp only [go_sem, ↓reduceIte, Nat.reduceEqDiff, reduceCtorEq, Nat.reduceAdd, Nat.reduceLeDiff, Nat.reduceSub, Nat.reduceMul, Int.reduceEq, Nat.reduceBEq, hc13, hc14, hb11, hb12]) <;> rfl) H hL9.sub (hK _ h)
    | false =>
      have h := h.2 hc14
      (try simp only [go_sem, ↓reduceIte, Nat.reduceEqDiff, reduceCtorEq, Nat.reduceAdd, Nat.reduceLeDiff, Nat.reduceSub, Nat.reduceMul, Int.reduceEq, Nat.reduceBEq, hc13, hc14, hb11, hb12])
      cases hc15 : (!decide (a_.fNumber = b_.fNumber)) with
      | true =>
        have h := h.1 hc15
        (try simp only [go_sem, ↓reduceIte, Nat.reduceEqDiff, reduceCtorEq, Nat.reduceAdd, Nat.reduceLeDiff, Nat.reduceSub, Nat.reduceMul, Int.reduceEq, Nat.reduceBEq, hc13, hc14, hc15, hb11, hb12])
        exact retQ_r1 (by (try simp only [go_sem, ↓reduceIte, Nat.reduceEqDiff, reduceCtorEq, Nat.reduceAdd, Nat.reduceLeDiff, Nat.reduceSub, Nat.reduceMul, Int.reduceEq, Nat.reduceBEq, hc13, hc14, hc15, hb11, hb12]) <;> rfl) H hL9.sub (hK _ h)
      | false =>
        have h := h.2 hc15
        (try simp only [go_sem, ↓reduceIte, Nat.reduceEqDiff, reduceCtorEq, Nat.reduceAdd, Nat.reduceLeDiff, Nat.reduceSub, Nat.reduceMul, Int.reduceEq, Nat.reduceBEq, hc13, hc14, hc15, hb11, hb12])
        cases hc16 : (!decide (a_.fDay = b_.fDay)) with
        | true =>
          have h := h.1 hc16
          (try simp only [go_sem, ↓reduceIte, Nat.reduceEqDiff, reduceCtorEq, Nat.reduceAdd, Nat.reduceLeDiff, Nat.reduceSub, Nat.reduceMul, Int.reduceEq, Nat.reduceBEq, hc13, hc14, hc15, hc16, hb11, hb12])
          exact retQ_r1 (by (try simp only [go_sem, ↓reduceIte, Nat.reduceEqDiff, reduceCtorEq, Nat.reduceAdd, Nat.reduceLeDiff, Nat.reduceSub, Nat.reduceMul, Int.reduceEq, Nat.reduceBEq, hc13, hc14, hc15, hc16, hb11, hb12]) <;> rfl) H hL9.sub (hK _ h)
        | false =>
          have h := h.2 hc16
          (try simp only [go_sem, ↓reduceIte, Nat.reduceEqDiff, reduceCtorEq, Nat.reduceAdd, Nat.reduceLeDiff, Nat.reduceSub, Nat.reduceMul, Int.reduceEq, Nat.reduceBEq, hc13, hc14, hc15, hc16, hb11, hb12])
          exact retQ_r1 (by (try simp only [go_sem, ↓reduceIte, Nat.reduceEqDiff, reduceCtorEq, Nat.reduceAdd, Nat.reduceLeDiff, Nat.reduceSub, Nat.reduceMul, Int.reduceEq, Nat.reduceBEq, hc13, hc14, hc15, hc16, hb11, hb12]) <;> rfl) H hL9.sub (hK _ h)
def w_laws_eqReturnS (a_ : (List S_Return)) (b_ : (List S_Return)) (Q : Bool → Prop) : Prop := a_.length ≤ 1152921504606846976 → b_.length ≤ 1152921504606846976 → (((!decide ((a_.length : Int) = (b_.length : Int))) = true → Q false) ∧ ((!decide ((a_.length : Int) = (b_.length : Int))) = false → (∃ I39 : Nat → Int → Prop, (∃ m, I39 m 0) ∧ (∀ (m48 : Nat) (x38 : Int), I39 m48 x38 → (((decide (x38 < (a_.length : Int))) = true → (In x38 a_.length ∧ (In x38 b_.length ∧ (w_laws_eqReturn (gt a_ x38) (gt b_ x38) fun r69 => (((!r69) = true → Q false) ∧ ((!r69) = false → (∃ m49, m49 < m48 ∧ I39 m49 (IntKind.i64.wrap (x38 + 1))))))))) ∧ ((decide (x38 < (a_.length : Int))) = false → Q true))))))
theorem k_laws_eqReturnS {a_ : (List S_Return)} {b_ : (List S_Return)} {Q : Bool → Prop} (h : w_laws_eqReturnS a_ b_ Q) {H : Hp} {va_ : Value} (ra_ : SlR R_Return 4 H a_ va_) {vb_ : Value} (rb_ : SlR R_Return 4 H b_ vb_) {K : Value → Hp → Prop} (hK : ∀ (r0 : Bool), Q r0 → K (Value.bool r0) H) :
    ACalls Go.Proofs.Try.prog n_laws_eqReturnS #[va_, vb_] H K := by
  unfold w_laws_eqReturnS at h
  have h := h ra_.le
  have h := h rb_.le
  refine acalls_go fn_laws_eqReturnS rfl fun hl => ?_
  simp only [c_laws_eqReturnS]
  have hL := Loc.nil H
  have hn1 := ra_.len
  have hn2 := rb_.len
  (try simp only [go_sem, ↓reduceIte, Nat.reduceEqDiff, reduceCtorEq, Nat.reduceAdd, Nat.reduceLeDiff, Nat.reduceSub, Nat.reduceMul, Int.reduceEq, Nat.reduceBEq, hn1, hn2])
  cases hc3 : (!decide ((a_.length : Int) = (b_.length : Int))) with
  | true =>
    have h := h.1 hc3
    (try simp only [go_sem, ↓reduceIte, Nat.reduceEqDiff, reduceCtorEq, Nat.reduceAdd, Nat.reduceLeDiff, Nat.reduceSub, Nat.reduceMul, Int.reduceEq, Nat.reduceBEq, hn1, hn2, hc3])
    exact retQ_r1 (by (try simp only [go_sem, ↓reduceIte, Nat.reduceEqDiff, reduceCtorEq, Nat.reduceAdd, Nat.reduceLeDiff, Nat.reduceSub, Nat.reduceMul, Int.reduceEq, Nat.reduceBEq, hn1, hn2, hc3]) <;> rfl) H hL.sub (hK _ h)
  | false =>
    have h := h.2 hc3
    (try simp only [go_sem, ↓reduceIte, Nat.reduceEqDiff, reduceCtorEq, Nat.reduceAdd, Nat.reduceLeDiff, Nat.reduceSub, Nat.reduceMul, Int.reduceEq, Nat.reduceBEq, hn1, hn2, hc3])
    obtain ⟨I39, ⟨m0, h0⟩, hSI39⟩ := h
    refine aw_loopM hl (fun m48 T' H' => ∃ x38, I39 m48 x38 ∧ T' 5 = Value.int .i64 x38 ∧ Loc H H' []) m0 H (Hp.sub.refl _) ⟨0, h0, (by (try simp only [go_sem, ↓reduceIte, Nat.reduceEqDiff, reduceCtorEq, Nat.reduceAdd, Nat.reduceLeDiff, Nat.reduceSub, Nat.reduceMul, Int.reduceEq, Nat.reduceBEq, hn1, hn2, hc3]) <;> rfl), hL⟩ ?_
    rintro m48 T42 H41 hl43 ho44 ⟨x38, hI46, t47, hL45⟩
    have t51 : T42 0 = va_ := by rw [ho44.get rfl]; (try simp only [go_sem, ↓reduceIte, Nat.reduceEqDiff, reduceCtorEq, Nat.reduceAdd, Nat.reduceLeDiff, Nat.reduceSub, Nat.reduceMul, Int.reduceEq, Nat.reduceBEq, hn1, hn2, hc3])
    have t52 : T42 1 = vb_ := by rw [ho44.get rfl]; (try simp only [go_sem, ↓reduceIte, Nat.reduceEqDiff, reduceCtorEq, Nat.reduceAdd, Nat.reduceLeDiff, Nat.reduceSub, Nat.reduceMul, Int.reduceEq, Nat.reduceBEq, hn1, hn2, hc3])
    have h := hSI39 m48 x38 hI46
    have hn53 := ra_.len
    (try simp only [go_sem, ↓reduceIte, Nat.reduceEqDiff, reduceCtorEq, Nat.reduceAdd, Nat.reduceLeDiff, Nat.reduceSub, Nat.reduceMul, Int.reduceEq, Nat.reduceBEq, t47, t51, t52, hn1, hn2, hc3, hn53])
    cases hc54 : (decide (x38 < (a_.length : Int))) with
    | true =>
      have h := h.1 hc54
      obtain ⟨hi55, h⟩ := h
      obtain ⟨b56, o61, c57, hia58, hrd59, hR60⟩ := SlR.atB ra_ hL45.sub (k := .i64) hi55
      obtain rfl : c57 = [Value.int .i8 ((gt a_ x38).fBuyer), Value.int .i8 ((gt a_ x38).fItem), Value.int .i16 ((gt a_ x38).fNumber), Value.int .i16 ((gt a_ x38).fDay)] := hR60
      obtain ⟨hi62, h⟩ := h
      obtain ⟨b63, o68, c64, hia65, hrd66, hR67⟩ := SlR.atB rb_ hL45.sub (k := .i64) hi62
      obtain rfl : c64 = [Value.int .i8 ((gt b_ x38).fBuyer), Value.int .i8 ((gt b_ x38).fItem), Value.int .i16 ((gt b_ x38).fNumber), Value.int .i16 ((gt b_ x38).fDay)] := hR67
      (try simp only [go_sem, ↓reduceIte, Nat.reduceEqDiff, reduceCtorEq, Nat.reduceAdd, Nat.reduceLeDiff, Nat.reduceSub, Nat.reduceMul, Int.reduceEq, Nat.reduceBEq, t47, t51, t52, hn1, hn2, hc3, hn53, hc54, hia58, hia65, hrd59, hrd66])
      refine aw_call (by (try simp only [go_sem, ↓reduceIte, Nat.reduceEqDiff, reduceCtorEq, Nat.reduceAdd, Nat.reduceLeDiff, Nat.reduceSub, Nat.reduceMul, Int.reduceEq, Nat.reduceBEq, t47, t51, t52, hn1, hn2, hc3, hn53, hc54, hia58, hia65, hrd59, hrd66]) <;> rfl) (by (try simp only [go_sem, ↓reduceIte, Nat.reduceEqDiff, reduceCtorEq, Nat.reduceAdd, Nat.reduceLeDiff, Nat.reduceSub, Nat.reduceMul, Int.reduceEq, Nat.reduceBEq, t47, t51, t52, hn1, hn2, hc3, hn53, hc54, hia58, hia65, hrd59, hrd66]) <;> rfl) (k_laws_eqReturn h rfl rfl fun r69 h => ?_)
      (try simp only [go_sem, ↓reduceIte, Nat.reduceEqDiff, reduceCtorEq, Nat.reduceAdd, Nat.reduceLeDiff, Nat.reduceSub, Nat.reduceMul, Int.reduceEq, Nat.reduceBEq, t47, t51, t52, hn1, hn2, hc3, hn53, hc54, hia58, hia65, hrd59, hrd66])
      cases hc71 : (!r69) with
      | true =>
        have h := h.1 hc71
        (try simp only [go_sem, ↓reduceIte, Nat.reduceEqDiff, reduceCtorEq, Nat.reduceAdd, Nat.reduceLeDiff, Nat.reduceSub, Nat.reduceMul, Int.reduceEq, Nat.reduceBEq, t47, t51, t52, hn1, hn2, hc3, hn53, hc54, hia58, hia65, hc71, hrd59, hrd66])
        exact retQ_r1 (by (try simp only [go_sem, ↓reduceIte, Nat.reduceEqDiff, reduceCtorEq, Nat.reduceAdd, Nat.reduceLeDiff, Nat.reduceSub, Nat.reduceMul, Int.reduceEq, Nat.reduceBEq, t47, t51, t52, hn1, hn2, hc3, hn53, hc54, hia58, hia65, hc71, hrd59, hrd66]) <;> rfl) H hL45.sub (hK _ h)
      | false =>
        have h := h.2 hc71
        obtain ⟨m49, hm50, h⟩ := h
        (try simp only [go_sem, ↓reduceIte, Nat.reduceEqDiff, reduceCtorEq, Nat.reduceAdd, Nat.reduceLeDiff, Nat.reduceSub, Nat.reduceMul, Int.reduceEq, Nat.reduceBEq, t47, t51, t52, hn1, hn2, hc3, hn53, hc54, hia58, hia65, hc71, hrd59, hrd66])
        exact ⟨m49, H41, hm50, Hp.sub.refl _, (IntKind.i64.wrap (x38 + 1)), h, (by (try simp only [go_sem, ↓reduceIte, Nat.reduceEqDiff, reduceCtorEq, Nat.reduceAdd, Nat.reduceLeDiff, Nat.reduceSub, Nat.reduceMul, Int.reduceEq, Nat.reduceBEq, t47, t51, t52, hn1, hn2, hc3, hn53, hc54, hia58, hia65, hc71, hrd59, hrd66]) <;> rfl), hL45⟩
    | false =>
      have h := h.2 hc54
      (try simp only [go_sem, ↓reduceIte, Nat.reduceEqDiff, reduceCtorEq, Nat.reduceAdd, Nat.reduceLeDiff, Nat.reduceSub, Nat.reduceMul, Int.reduceEq, Nat.reduceBEq, t47, t51, t52, hn1, hn2, hc3, hn53, hc54])
      exact retQ_r1 (by (try simp only [go_sem, ↓reduceIte, Nat.reduceEqDiff, reduceCtorEq, Nat.reduceAdd, Nat.reduceLeDiff, Nat.reduceSub, Nat.reduceMul, Int.reduceEq, Nat.reduceBEq, t47, t51, t52, hn1, hn2, hc3, hn53, hc54]) <;> rfl) H hL45.sub (hK _ h)
def w_laws_markOrderS (a_ : (List S_Order)) (k_ : Int) (Q : Int → (List S_Order) → Prop) : Prop := (∃ I210 : Nat → Int → Int → (List S_Order) → Prop, (∃ m, I210 m k_ 0 a_) ∧ (∀ (m220 : Nat) (x203 : Int) (x204 : Int) (xs205 : List S_Order), I210 m220 x203 x204 xs205 → (((decide (x204 < (xs205.length : Int))) = true → (In x204 xs205.length ∧ (∀ xs239, xs239 = (xs205.set (x204).toNat (⟨(IntKind.i8.wrap x203), (gt xs205 x204).fItem, (gt xs205 x204).fNumber, (gt xs205 x204).fPrice, (gt xs205 x204).fDay⟩ : S_Order)) → (In x204 xs239.length ∧ (∀ xs255, xs255 = (xs239.set (x204).toNat (⟨(gt xs239 x204).fBuyer, (IntKind.i8.wrap (IntKind.i64.wrap (x203 + 1))), (gt xs239 x204).fNumber, (gt xs239 x204).fPrice, (gt xs239 x204).fDay⟩ : S_Order)) → (In x204 xs255.length ∧ (∀ xs271, xs271 = (xs255.set (x204).toNat (⟨(gt xs255 x204).fBuyer, (gt xs255 x204).fItem, (IntKind.i16.wrap (IntKind.i64.wrap ((IntKind.i64.wrap (x203 + 1)) + 1))), (gt xs255 x204).fPrice, (gt xs255 x204).fDay⟩ : S_Order)) → (In x204 xs271.length ∧ (∀ xs287, xs287 = (xs271.set (x204).toNat (⟨(gt xs271 x204).fBuyer, (gt xs271 x204).fItem, (gt xs271 x204).fNumber, (IntKind.i16.wrap (IntKind.i64.wrap ((IntKind.i64.wrap ((IntKind.i64.wrap (x203 + 1)) + 1)) + 1))), (gt xs271 x204).fDay⟩ : S_Order)) → (In x204 xs287.length ∧ (∀ xs303, xs303 = (xs287.set (x204).toNat (⟨(gt xs287 x204).fBuyer, (gt xs287 x204).fItem, (gt xs287 x204).fNumber, (gt xs287 x204).fPrice, (IntKind.i16.wrap (IntKind.i64.wrap ((IntKind.i64.wrap ((IntKind.i64.wrap ((IntKind.i64.wrap (x203 + 1)) + 1)) + 1)) + 1)))⟩ : S_Order)) → (∃ m221, m221 < m220 ∧ I210 m221 (IntKind.i64.wrap ((IntKind.i64.wrap ((IntKind.i64.wrap ((IntKind.i64.wrap ((IntKind.i64.wrap (x203 + 1)) + 1)) + 1)) + 1)) + 1)) (IntKind.i64.wrap (x204 + 1)) xs303)))))))))))) ∧ ((decide (x204 < (xs205.length : Int))) = false → Q x203 xs205))))
theorem k_laws_markOrderS {a_ : (List S_Order)} {k_ : Int} {Q : Int → (List S_Order) → Prop} (h : w_laws_markOrderS a_ k_ Q) {H H0 : Hp} {kba_ : Option Nat} {tya_ : TypeId} {va_ : Value} {rowsa_ : List (List Value)} (hH : H = H0.minus kba_) (hoa_ : E.ok H0 (.own kba_ tya_ 5 va_ rowsa_)) (ra_ : Rows R_Order H a_ rowsa_) {K : Value → Hp → Prop} (hK : ∀ (r0 : Int) (x' : (List S_Order)), Q r0 x' → ∀ (H' : Hp) (rows' : List (List Value)), Live H' → Loc H H' ([] ++ [.own kba_ tya_ 5 va_ rows']) → Rows R_Order H x' rows' → K (Value.int .i64 r0) H') :
    ACalls Go.Proofs.Try.prog n_laws_markOrderS #[va_, Value.int .i64 k_] H0 K := by
  unfold w_laws_markOrderS at h
  refine acalls_go fn_laws_markOrderS rfl fun hl => ?_
  simp only [c_laws_markOrderS]
  have hL := Loc.one hH hoa_
  (try simp only [go_sem, ↓reduceIte, Nat.reduceEqDiff, reduceCtorEq, Nat.reduceAdd, Nat.reduceLeDiff, Nat.reduceSub, Nat.reduceMul, Int.reduceEq, Nat.reduceBEq])
  obtain ⟨I210, ⟨m0, h0⟩, hSI210⟩ := h
  refine aw_loopM hl (fun m220 T' H' => ∃ x203 x204 xs205 rows208, I210 m220 x203 x204 xs205 ∧ T' 1 = Value.int .i64 x203 ∧ T' 5 = Value.int .i64 x204 ∧ Loc H H' [.own kba_ tya_ 5 va_ rows208] ∧ Rows R_Order H xs205 rows208) m0 H0 (Hp.sub.refl _) ⟨k_, 0, a_, rowsa_, h0, (by (try simp only [go_sem, ↓reduceIte, Nat.reduceEqDiff, reduceCtorEq, Nat.reduceAdd, Nat.reduceLeDiff, Nat.reduceSub, Nat.reduceMul, Int.reduceEq, Nat.reduceBEq]) <;> rfl), (by (try simp only [go_sem, ↓reduceIte, Nat.reduceEqDiff, reduceCtorEq, Nat.reduceAdd, Nat.reduceLeDiff, Nat.reduceSub, Nat.reduceMul, Int.reduceEq, Nat.reduceBEq]) <;> rfl), hL, ra_⟩ ?_
  rintro m220 T213 H212 hl214 ho215 ⟨x203, x204, xs205, rows208, hI217, t218, t219, hL216, hr209⟩
  have t223 : T213 0 = va_ := by rw [ho215.get rfl]; (try simp only [go_sem, ↓reduceIte, Nat.reduceEqDiff, reduceCtorEq, Nat.reduceAdd, Nat.reduceLeDiff, Nat.reduceSub, Nat.reduceMul, Int.reduceEq, Nat.reduceBEq])
  have h := hSI210 m220 x203 x204 xs205 hI217
  have hn224 := hL216.lenR 0 rfl hr209
  (try simp only [go_sem, ↓reduceIte, Nat.reduceEqDiff, reduceCtorEq, Nat.reduceAdd, Nat.reduceLeDiff, Nat.reduceSub, Nat.reduceMul, Int.reduceEq, Nat.reduceBEq, t218, t219, t223, hn224])
  cases hc225 : (decide (x204 < (xs205.length : Int))) with
  | true =>
    have h := h.1 hc225
    obtain ⟨hi226, h⟩ := h
    obtain ⟨b227, c228, hkb232, hia229, hrd230, hg233, hlt234, hR231⟩ := hL216.atR 0 rfl hr209 (k := .i64) hi226
    obtain rfl : c228 = [Value.int .i8 ((gt xs205 x204).fBuyer), Value.int .i8 ((gt xs205 x204).fItem), Value.int .i16 ((gt xs205 x204).fNumber), Value.int .i16 ((gt xs205 x204).fPrice), Value.int .i16 ((gt xs205 x204).fDay)] := hR231
    (try simp only [go_sem, ↓reduceIte, Nat.reduceEqDiff, reduceCtorEq, Nat.reduceAdd, Nat.reduceLeDiff, Nat.reduceSub, Nat.reduceMul, Int.reduceEq, Nat.reduceBEq, t218, t219, t223, hn224, hc225, hia229, hrd230])
    refine awL_wrR (sub := 0) (r' := [Value.int .i8 (IntKind.i8.wrap x203), Value.int .i8 ((gt xs205 x204).fItem), Value.int .i16 ((gt xs205 x204).fNumber), Value.int .i16 ((gt xs205 x204).fPrice), Value.int .i16 ((gt xs205 x204).fDay)]) 0 hl214 hL216 rfl hkb232 hlt234 hg233 (by (try simp only [go_sem, ↓reduceIte, Nat.reduceEqDiff, reduceCtorEq, Nat.reduceAdd, Nat.reduceLeDiff, Nat.reduceSub, Nat.reduceMul, Int.reduceEq, Nat.reduceBEq, t218, t219, t223, hn224, hc225, hia229, hrd230]) <;> rfl) rfl (by (try simp only [go_sem, ↓reduceIte, Nat.reduceEqDiff, reduceCtorEq, Nat.reduceAdd, Nat.reduceLeDiff, Nat.reduceSub, Nat.reduceMul, Int.reduceEq, Nat.reduceBEq, t218, t219, t223, hn224, hc225, hia229, hrd230]) <;> rfl) (by (try simp only [go_sem, ↓reduceIte, Nat.reduceEqDiff, reduceCtorEq, Nat.reduceAdd, Nat.reduceLeDiff, Nat.reduceSub, Nat.reduceMul, Int.reduceEq, Nat.reduceBEq, t218, t219, t223, hn224, hc225, hia229, hrd230]) <;> rfl) fun H235 hl236 hL237 => ?_
    have hr238 := hr209.set (x204).toNat (show R_Order H (⟨(IntKind.i8.wrap x203), (gt xs205 x204).fItem, (gt xs205 x204).fNumber, (gt xs205 x204).fPrice, (gt xs205 x204).fDay⟩ : S_Order) [Value.int .i8 (IntKind.i8.wrap x203), Value.int .i8 ((gt xs205 x204).fItem), Value.int .i16 ((gt xs205 x204).fNumber), Value.int .i16 ((gt xs205 x204).fPrice), Value.int .i16 ((gt xs205 x204).fDay)] from rfl)
    obtain ⟨xs239, hxs240⟩ : ∃ ys, ys = (xs205.set (x204).toNat (⟨(IntKind.i8.wrap x203), (gt xs205 x204).fItem, (gt xs205 x204).fNumber, (gt xs205 x204).fPrice, (gt xs205 x204).fDay⟩ : S_Order)) := ⟨_, rfl⟩
    rw [← hxs240] at hr238
    have h := h xs239 hxs240
    generalize (rows208.set (x204).toNat [Value.int .i8 (IntKind.i8.wrap x203), Value.int .i8 ((gt xs205 x204).fItem), Value.int .i16 ((gt xs205 x204).fNumber), Value.int .i16 ((gt xs205 x204).fPrice), Value.int .i16 ((gt xs205 x204).fDay)]) = rows241 at hL237 hr238
    obtain ⟨hi242, h⟩ := h
    obtain ⟨b243, c244, hkb248, hia245, hrd246, hg249, hlt250, hR247⟩ := hL237.atR 0 rfl hr238 (k := .i64) hi242
    obtain rfl : c244 = [Value.int .i8 ((gt xs239 x204).fBuyer), Value.int .i8 ((gt xs239 x204).fItem), Value.int .i16 ((gt xs239 x204).fNumber), Value.int .i16 ((gt xs239 x204).fPrice), Value.int .i16 ((gt xs239 x204).fDay)] := hR247
    (try simp only [go_sem, ↓reduceIte, Nat.reduceEqDiff, reduceCtorEq, Nat.reduceAdd, Nat.reduceLeDiff, Nat.reduceSub, Nat.reduceMul, Int.reduceEq, Nat.reduceBEq, t218, t219, t223, hn224, hc225, hia245, hrd246])
    refine awL_wrR (sub := 1) (r' := [Value.int .i8 ((gt xs239 x204).fBuyer), Value.int .i8 (IntKind.i8.wrap (IntKind.i64.wrap (x203 + 1))), Value.int .i16 ((gt xs239 x204).fNumber), Value.int .i16 ((gt xs239 x204).fPrice), Value.int .i16 ((gt xs239 x204).fDay)]) 0 hl236 hL237 rfl hkb248 hlt250 hg249 (by (try simp only [go_sem, ↓reduceIte, Nat.reduceEqDiff, reduceCtorEq, Nat.reduceAdd, Nat.reduceLeDiff, Nat.reduceSub, Nat.reduceMul, Int.reduceEq, Nat.reduceBEq, t218, t219, t223, hn224, hc225, hia245, hrd246]) <;> rfl) rfl (by (try simp only [go_sem, ↓reduceIte, Nat.reduceEqDiff, reduceCtorEq, Nat.reduceAdd, Nat.reduceLeDiff, Nat.reduceSub, Nat.reduceMul, Int.reduceEq, Nat.reduceBEq, t218, t219, t223, hn224, hc225, hia245, hrd246]) <;> rfl) (by (try simp only [go_sem, ↓reduceIte, Nat.reduceEqDiff, reduceCtorEq, Nat.reduceAdd, Nat.reduceLeDiff, Nat.reduceSub, Nat.reduceMul, Int.reduceEq, Nat.reduceBEq, t218, t219, t223, hn224, hc225, hia245, hrd246]) <;> rfl) fun H251 hl252 hL253 => ?_
    have hr254 := hr238.set (x204).toNat (show R_Order H (⟨(gt xs239 x204).fBuyer, (IntKind.i8.wrap (IntKind.i64.wrap (x203 + 1))), (gt xs239 x204).fNumber, (gt xs239 x204).fPrice, (gt xs239 x204).fDay⟩ : S_Order) [Value.int .i8 ((gt xs239 x204).fBuyer), Value.int .i8 (IntKind.i8.wrap (IntKind.i64.wrap (x203 + 1))), Value.int .i16 ((gt xs239 x204).fNumber), Value.int .i16 ((gt xs239 x204).fPrice), Value.int .i16 ((gt xs239 x204).fDay)] from rfl)
    obtain ⟨xs255, hxs256⟩ : ∃ ys, ys = (xs239.set (x204).toNat (⟨(gt xs239 x204).fBuyer, (IntKind.i8.wrap (IntKind.i64.wrap (x203 + 1))), (gt xs239 x204).fNumber, (gt xs239 x204).fPrice, (gt xs239 x204).fDay⟩ : S_Order)) := ⟨_, rfl⟩
    rw [← hxs256] at hr254
    have h := h xs255 hxs256
    generalize (rows241.set (x204).toNat [Value.int .i8 ((gt xs239 x204).fBuyer), Value.int .i8 (IntKind.i8.wrap (IntKind.i64.wrap (x203 + 1))), Value.int .i16 ((gt xs239 x204).fNumber), Value.int .i16 ((gt xs239 x204).fPrice), Value.int .i16 ((gt xs239 x204).fDay)]) = rows257 at hL253 hr254
    obtain ⟨hi258, h⟩ := h
    obtain ⟨b259, c260, hkb264, hia261, hrd262, hg265, hlt266, hR263⟩ := hL253.atR 0 rfl hr254 (k := .i64) hi258
    obtain rfl : c260 = [Value.int .i8 ((gt xs255 x204).fBuyer), Value.int .i8 ((gt xs255 x204).fItem), Value.int .i16 ((gt xs255 x204).fNumber), Value.int .i16 ((gt xs255 x204).fPrice), Value.int .i16 ((gt xs255 x204).fDay)] := hR263
    (try simp only [go_sem, ↓reduceIte, Nat.reduceEqDiff, reduceCtorEq, Nat.reduceAdd, Nat.reduceLeDiff, Nat.reduceSub, Nat.reduceMul, Int.reduceEq, Nat.reduceBEq, t218, t219, t223, hn224, hc225, hia261, hrd262])
    refine awL_wrR (sub := 2) (r' := [Value.int .i8 ((gt xs255 x204).fBuyer), Value.int .i8 ((gt xs255 x204).fItem), Value.int .i16 (IntKind.i16.wrap (IntKind.i64.wrap ((IntKind.i64.wrap (x203 + 1)) + 1))), Value.int .i16 ((gt xs255 x204).fPrice), Value.int .i16 ((gt xs255 x204).fDay)]) 0 hl252 hL253 rfl hkb264 hlt266 hg265 (by (try simp only [go_sem, ↓reduceIte, Nat.reduceEqDiff, reduceCtorEq, Nat.reduceAdd, Nat.reduceLeDiff, Nat.reduceSub, Nat.reduceMul, Int.reduceEq, Nat.reduceBEq, t218, t219, t223, hn224, hc225, hia261, hrd262]) <;> rfl) rfl (by (try simp only [go_sem, ↓reduceIte, Nat.reduceEqDiff, reduceCtorEq, Nat.reduceAdd, Nat.reduceLeDiff, Nat.reduceSub, Nat.reduceMul, Int.reduceEq, Nat.reduceBEq, t218, t219, t223, hn224, hc225, hia261, hrd262]) <;> rfl) (by (try simp only [go_sem, ↓reduceIte, Nat.reduceEqDiff, reduceCtorEq, Nat.reduceAdd, Nat.reduceLeDiff, Nat.reduceSub, Nat.reduceMul, Int.reduceEq, Nat.reduceBEq, t218, t219, t223, hn224, hc225, hia261, hrd262]) <;> rfl) fun H267 hl268 hL269 => ?_
    have hr270 := hr254.set (x204).toNat (show R_Order H (⟨(gt xs255 x204).fBuyer, (gt xs255 x204).fItem, (IntKind.i16.wrap (IntKind.i64.wrap ((IntKind.i64.wrap (x203 + 1)) + 1))), (gt xs255 x204).fPrice, (gt xs255 x204).fDay⟩ : S_Order) [Value.int .i8 ((gt xs255 x204).fBuyer), Value.int .i8 ((gt xs255 x204).fItem), Value.int .i16 (IntKind.i16.wrap (IntKind.i64.wrap ((IntKind.i64.wrap (x203 + 1)) + 1))), Value.int .i16 ((gt xs255 x204).fPrice), Value.int .i16 ((gt xs255 x204).fDay)] from rfl)
    obtain ⟨xs271, hxs272⟩ : ∃ ys, ys = (xs255.set (x204).toNat (⟨(gt xs255 x204).fBuyer, (gt xs255 x204).fItem, (IntKind.i16.wrap (IntKind.i64.wrap ((IntKind.i64.wrap (x203 + 1)) + 1))), (gt xs255 x204).fPrice, (gt xs255 x204).fDay⟩ : S_Order)) := ⟨_, rfl⟩
    rw [← hxs272] at hr270
    have h := h xs271 hxs272
    generalize (rows257.set (x204).toNat [Value.int .i8 ((gt xs255 x204).fBuyer), Value.int .i8 ((gt xs255 x204).fItem), Value.int .i16 (IntKind.i16.wrap (IntKind.i64.wrap ((IntKind.i64.wrap (x203 + 1)) + 1))), Value.int .i16 ((gt xs255 x204).fPrice), Value.int .i16 ((gt xs255 x204).fDay)]) = rows273 at hL269 hr270
    obtain ⟨hi274, h⟩ := h
    obtain ⟨b275, c276, hkb280, hia277, hrd278, hg281, hlt282, hR279⟩ := hL269.atR 0 rfl hr270 (k := .i64) hi274
    obtain rfl : c276 = [Value.int .i8 ((gt xs271 x204).fBuyer), Value.int .i8 ((gt xs271 x204).fItem), Value.int .i16 ((gt xs271 x204).fNumber), Value.int .i16 ((gt xs271 x204).fPrice), Value.int .i16 ((gt xs271 x204).fDay)] := hR279
    (try simp only [go_sem, ↓reduceIte, Nat.reduceEqDiff, reduceCtorEq, Nat.reduceAdd, Nat.reduceLeDiff, Nat.reduceSub, Nat.reduceMul, Int.reduceEq, Nat.reduceBEq, t218, t219, t223, hn224, hc225, hia277, hrd278])
    refine awL_wrR (sub := 3) (r' := [Value.int .i8 ((gt xs271 x204).fBuyer), Value.int .i8 ((gt xs271 x204).fItem), Value.int .i16 ((gt xs271 x204).fNumber), Value.int .i16 (IntKind.i16.wrap (IntKind.i64.wrap ((IntKind.i64.wrap ((IntKind.i64.wrap (x203 + 1)) + 1)) + 1))), Value.int .i16 ((gt xs271 x204).fDay)]) 0 hl268 hL269 rfl hkb280 hlt282 hg281 (by (try simp only [go_sem, ↓reduceIte, Nat.reduceEqDiff, reduceCtorEq, Nat.reduceAdd, Nat.reduceLeDiff, Nat.reduceSub, Nat.reduceMul, Int.reduceEq, Nat.reduceBEq, t218, t219, t223, hn224, hc225, hia277, hrd278]) <;> rfl) rfl (by (try simp only [go_sem, ↓reduceIte, Nat.reduceEqDiff, reduceCtorEq, Nat.reduceAdd, Nat.reduceLeDiff, Nat.reduceSub, Nat.reduceMul, Int.reduceEq, Nat.reduceBEq, t218, t219, t223, hn224, hc225, hia277, hrd278]) <;> rfl) (by (try simp only [go_sem, ↓reduceIte, Nat.reduceEqDiff, reduceCtorEq, Nat.reduceAdd, Nat.reduceLeDiff, Nat.reduceSub, Nat.reduceMul, Int.reduceEq, Nat.reduceBEq, t218, t219, t223, hn224, hc225, hia277, hrd278]) <;> rfl) fun H283 hl284 hL285 => ?_
    have hr286 := hr270.set (x204).toNat (show R_Order H (⟨(gt xs271 x204).fBuyer, (gt xs271 x204).fItem, (gt xs271 x204).fNumber, (IntKind.i16.wrap (IntKind.i64.wrap ((IntKind.i64.wrap ((IntKind.i64.wrap (x203 + 1)) + 1)) + 1))), (gt xs271 x204).fDay⟩ : S_Order) [Value.int .i8 ((gt xs271 x204).fBuyer), Value.int .i8 ((gt xs271 x204).fItem), Value.int .i16 ((gt xs271 x204).fNumber), Value.int .i16 (IntKind.i16.wrap (IntKind.i64.wrap ((IntKind.i64.wrap ((IntKind.i64.wrap (x203 + 1)) + 1)) + 1))), Value.int .i16 ((gt xs271 x204).fDay)] from rfl)
    obtain ⟨xs287, hxs288⟩ : ∃ ys, ys = (xs271.set (x204).toNat (⟨(gt xs271 x204).fBuyer, (gt xs271 x204).fItem, (gt xs271 x204).fNumber, (IntKind.i16.wrap (IntKind.i64.wrap ((IntKind.i64.wrap ((IntKind.i64.wrap (x203 + 1)) + 1)) + 1))), (gt xs271 x204).fDay⟩ : S_Order)) := ⟨_, rfl⟩
    rw [← hxs288] at hr286
    have h := h xs287 hxs288
    generalize (rows273.set (x204).toNat [Value.int .i8 ((gt xs271 x204).fBuyer), Value.int .i8 ((gt xs271 x204).fItem), Value.int .i16 ((gt xs271 x204).fNumber), Value.int .i16 (IntKind.i16.wrap (IntKind.i64.wrap ((IntKind.i64.wrap ((IntKind.i64.wrap (x203 + 1)) + 1)) + 1))), Value.int .i16 ((gt xs271 x204).fDay)]) = rows289 at hL285 hr286
    obtain ⟨hi290, h⟩ := h
    obtain ⟨b291, c292, hkb296, hia293, hrd294, hg297, hlt298, hR295⟩ := hL285.atR 0 rfl hr286 (k := .i64) hi290
    obtain rfl : c292 = [Value.int .i8 ((gt xs287 x204).fBuyer), Value.int .i8 ((gt xs287 x204).fItem), Value.int .i16 ((gt xs287 x204).fNumber), Value.int .i16 ((gt xs287 x204).fPrice), Value.int .i16 ((gt xs287 x204).fDay)] := hR295
    (try simp only [go_sem, ↓reduceIte, Nat.reduceEqDiff, reduceCtorEq, Nat.reduceAdd, Nat.reduceLeDiff, Nat.reduceSub, Nat.reduceMul, Int.reduceEq, Nat.reduceBEq, t218, t219, t223, hn224, hc225, hia293, hrd294])
    refine awL_wrR (sub := 4) (r' := [Value.int .i8 ((gt xs287 x204).fBuyer), Value.int .i8 ((gt xs287 x204).fItem), Value.int .i16 ((gt xs287 x204).fNumber), Value.int .i16 ((gt xs287 x204).fPrice), Value.int .i16 (IntKind.i16.wrap (IntKind.i64.wrap ((IntKind.i64.wrap ((IntKind.i64.wrap ((IntKind.i64.wrap (x203 + 1)) + 1)) + 1)) + 1)))]) 0 hl284 hL285 rfl hkb296 hlt298 hg297 (by (try simp only [go_sem, ↓reduceIte, Nat.reduceEqDiff, reduceCtorEq, Nat.reduceAdd, Nat.reduceLeDiff, Nat.reduceSub, Nat.reduceMul, Int.reduceEq, Nat.reduceBEq, t218, t219, t223, hn224, hc225, hia293, hrd294]) <;> rfl) rfl (by (try simp only [go_sem, ↓reduceIte, Nat.reduceEqDiff, reduceCtorEq, Nat.reduceAdd, Nat.reduceLeDiff, Nat.reduceSub, Nat.reduceMul, Int.reduceEq, Nat.reduceBEq, t218, t219, t223, hn224, hc225, hia293, hrd294]) <;> rfl) (by (try simp only [go_sem, ↓reduceIte, Nat.reduceEqDiff, reduceCtorEq, Nat.reduceAdd, Nat.reduceLeDiff, Nat.reduceSub, Nat.reduceMul, Int.reduceEq, Nat.reduceBEq, t218, t219, t223, hn224, hc225, hia293, hrd294]) <;> rfl) fun H299 hl300 hL301 => ?_
    have hr302 := hr286.set (x204).toNat (show R_Order H (⟨(gt xs287 x204).fBuyer, (gt xs287 x204).fItem, (gt xs287 x204).fNumber, (gt xs287 x204).fPrice, (IntKind.i16.wrap (IntKind.i64.wrap ((IntKind.i64.wrap ((IntKind.i64.wrap ((IntKind.i64.wrap (x203 + 1)) + 1)) + 1)) + 1)))⟩ : S_Order) [Value.int .i8 ((gt xs287 x204).fBuyer), Value.int .i8 ((gt xs287 x204).fItem), Value.int .i16 ((gt xs287 x204).fNumber), Value.int .i16 ((gt xs287 x204).fPrice), Value.int .i16 (IntKind.i16.wrap (IntKind.i64.wrap ((IntKind.i64.wrap ((IntKind.i64.wrap ((IntKind.i64.wrap (x203 + 1)) + 1)) + 1)) + 1)))] from rfl)
    obtain ⟨xs303, hxs304⟩ : ∃ ys, ys = (xs287.set (x204).toNat (⟨(gt xs287 x204).fBuyer, (gt xs287 x204).fItem, (gt xs287 x204).fNumber, (gt xs287 x204).fPrice, (IntKind.i16.wrap (IntKind.i64.wrap ((IntKind.i64.wrap ((IntKind.i64.wrap ((IntKind.i64.wrap (x203 + 1)) + 1)) + 1)) + 1)))⟩ : S_Order)) := ⟨_, rfl⟩
    rw [← hxs304] at hr302
    have h := h xs303 hxs304
    generalize (rows289.set (x204).toNat [Value.int .i8 ((gt xs287 x204).fBuyer), Value.int .i8 ((gt xs287 x204).fItem), Value.int .i16 ((gt xs287 x204).fNumber), Value.int .i16 ((gt xs287 x204).fPrice), Value.int .i16 (IntKind.i16.wrap (IntKind.i64.wrap ((IntKind.i64.wrap ((IntKind.i64.wrap ((IntKind.i64.wrap (x203 + 1)) + 1)) + 1)) + 1)))]) = rows305 at hL301 hr302
    obtain ⟨m221, hm222, h⟩ := h
    (try simp only [go_sem, ↓reduceIte, Nat.reduceEqDiff, reduceCtorEq, Nat.reduceAdd, Nat.reduceLeDiff, Nat.reduceSub, Nat.reduceMul, Int.reduceEq, Nat.reduceBEq, t218, t219, t223, hn224, hc225, hia293])
    exact ⟨m221, H299, hm222, Hp.sub.refl _, (IntKind.i64.wrap ((IntKind.i64.wrap ((IntKind.i64.wrap ((IntKind.i64.wrap ((IntKind.i64.wrap (x203 + 1)) + 1)) + 1)) + 1)) + 1)), (IntKind.i64.wrap (x204 + 1)), xs303, rows305, h, (by (try simp only [go_sem, ↓reduceIte, Nat.reduceEqDiff, reduceCtorEq, Nat.reduceAdd, Nat.reduceLeDiff, Nat.reduceSub, Nat.reduceMul, Int.reduceEq, Nat.reduceBEq, t218, t219, t223, hn224, hc225, hia293]) <;> rfl), (by (try simp only [go_sem, ↓reduceIte, Nat.reduceEqDiff, reduceCtorEq, Nat.reduceAdd, Nat.reduceLeDiff, Nat.reduceSub, Nat.reduceMul, Int.reduceEq, Nat.reduceBEq, t218, t219, t223, hn224, hc225, hia293]) <;> rfl), hL301, hr302⟩
  | false =>
    have h := h.2 hc225
    (try simp only [go_sem, ↓reduceIte, Nat.reduceEqDiff, reduceCtorEq, Nat.reduceAdd, Nat.reduceLeDiff, Nat.reduceSub, Nat.reduceMul, Int.reduceEq, Nat.reduceBEq, t218, t219, t223, hn224, hc225])
    exact retQ_r1 (by (try simp only [go_sem, ↓reduceIte, Nat.reduceEqDiff, reduceCtorEq, Nat.reduceAdd, Nat.reduceLeDiff, Nat.reduceSub, Nat.reduceMul, Int.reduceEq, Nat.reduceBEq, t218, t219, t223, hn224, hc225]) <;> rfl) H212 (Hp.sub.refl _) (hK _ _ h H212 rows208 hl214 (hL216.sel [0] (by decide)) hr209)
def w_laws_markReturnS (a_ : (List S_Return)) (k_ : Int) (Q : Int → (List S_Return) → Prop) : Prop := (∃ I178 : Nat → Int → Int → (List S_Return) → Prop, (∃ m, I178 m k_ 0 a_) ∧ (∀ (m188 : Nat) (x171 : Int) (x172 : Int) (xs173 : List S_Return), I178 m188 x171 x172 xs173 → (((decide (x172 < (xs173.length : Int))) = true → (In x172 xs173.length ∧ (∀ xs207, xs207 = (xs173.set (x172).toNat (⟨(IntKind.i8.wrap x171), (gt xs173 x172).fItem, (gt xs173 x172).fNumber, (gt xs173 x172).fDay⟩ : S_Return)) → (In x172 xs207.length ∧ (∀ xs223, xs223 = (xs207.set (x172).toNat (⟨(gt xs207 x172).fBuyer, (IntKind.i8.wrap (IntKind.i64.wrap (x171 + 1))), (gt xs207 x172).fNumber, (gt xs207 x172).fDay⟩ : S_Return)) → (In x172 xs223.length ∧ (∀ xs239, xs239 = (xs223.set (x172).toNat (⟨(gt xs223 x172).fBuyer, (gt xs223 x172).fItem, (IntKind.i16.wrap (IntKind.i64.wrap ((IntKind.i64.wrap (x171 + 1)) + 1))), (gt xs223 x172).fDay⟩ : S_Return)) → (In x172 xs239.length ∧ (∀ xs255, xs255 = (xs239.set (x172).toNat (⟨(gt xs239 x172).fBuyer, (gt xs239 x172).fItem, (gt xs239 x172).fNumber, (IntKind.i16.wrap (IntKind.i64.wrap ((IntKind.i64.wrap ((IntKind.i64.wrap (x171 + 1)) + 1)) + 1)))⟩ : S_Return)) → (∃ m189, m189 < m188 ∧ I178 m189 (IntKind.i64.wrap ((IntKind.i64.wrap ((IntKind.i64.wrap ((IntKind.i64.wrap (x171 + 1)) + 1)) + 1)) + 1)) (IntKind.i64.wrap (x172 + 1)) xs255)))))))))) ∧ ((decide (x172 < (xs173.length : Int))) = false → Q x171 xs173))))
theorem k_laws_markReturnS {a_ : (List S_Return)} {k_ : Int} {Q : Int → (List S_Return) → Prop} (h : w_laws_markReturnS a_ k_ Q) {H H0 : Hp} {kba_ : Option Nat} {tya_ : TypeId} {va_ : Value} {rowsa_ : List (List Value)} (hH : H = H0.minus kba_) (hoa_ : E.ok H0 (.own kba_ tya_ 4 va_ rowsa_)) (ra_ : Rows R_Return H a_ rowsa_) {K : Value → Hp → Prop} (hK : ∀ (r0 : Int) (x' : (List S_Return)), Q r0 x' → ∀ (H' : Hp) (rows' : List (List Value)), Live H' → Loc H H' ([] ++ [.own kba_ tya_ 4 va_ rows']) → Rows R_Return H x' rows' → K (Value.int .i64 r0) H') :
    ACalls Go.Proofs.Try.prog n_laws_markReturnS #[va_, Value.int .i64 k_] H0 K := by
  unfold w_laws_markReturnS at h
  refine acalls_go fn_laws_markReturnS rfl fun hl => ?_
  simp only [c_laws_markReturnS]
  have hL := Loc.one hH hoa_
  (try simp only [go_sem, ↓reduceIte, Nat.reduceEqDiff, reduceCtorEq, Nat.reduceAdd, Nat.reduceLeDiff, Nat.reduceSub, Nat.reduceMul, Int.reduceEq, Nat.reduceBEq])
  obtain ⟨I178, ⟨m0, h0⟩, hSI178⟩ := h
  refine aw_loopM hl (fun m188 T' H' => ∃ x171 x172 xs173 rows176, I178 m188 x171 x172 xs173 ∧ T' 1 = Value.int .i64 x171 ∧ T' 5 = Value.int .i64 x172 ∧ Loc H H' [.own kba_ tya_ 4 va_ rows176] ∧ Rows R_Return H xs173 rows176) m0 H0 (Hp.sub.refl _) ⟨k_, 0, a_, rowsa_, h0, (by (try simp only [go_sem, ↓reduceIte, Nat.reduceEqDiff, reduceCtorEq, Nat.reduceAdd, Nat.reduceLeDiff, Nat.reduceSub, Nat.reduceMul, Int.reduceEq, Nat.reduceBEq]) <;> rfl), (by (try simp only [go_sem, ↓reduceIte, Nat.reduceEqDiff, reduceCtorEq, Nat.reduceAdd, Nat.reduceLeDiff, Nat.reduceSub, Nat.reduceMul, Int.reduceEq, Nat.reduceBEq]) <;> rfl), hL, ra_⟩ ?_
  rintro m188 T181 H180 hl182 ho183 ⟨x171, x172, xs173, rows176, hI185, t186, t187, hL184, hr177⟩
  have t191 : T181 0 = va_ := by rw [ho183.get rfl]; (try simp only [go_sem, ↓reduceIte, Nat.reduceEqDiff, reduceCtorEq, Nat.reduceAdd, Nat.reduceLeDiff, Nat.reduceSub, Nat.reduceMul, Int.reduceEq, Nat.reduceBEq])
  have h := hSI178 m188 x171 x172 xs173 hI185
  have hn192 := hL184.lenR 0 rfl hr177
  (try simp only [go_sem, ↓reduceIte, Nat.reduceEqDiff, reduceCtorEq, Nat.reduceAdd, Nat.reduceLeDiff, Nat.reduceSub, Nat.reduceMul, Int.reduceEq, Nat.reduceBEq, t186, t187, t191, hn192])
  cases hc193 : (decide (x172 < (xs173.length : Int))) with
  | true =>
    have h := h.1 hc193
    obtain ⟨hi194, h⟩ := h
    obtain ⟨b195, c196, hkb200, hia197, hrd198, hg201, hlt202, hR199⟩ := hL184.atR 0 rfl hr177 (k := .i64) hi194
    obtain rfl : c196 = [Value.int .i8 ((gt xs173 x172).fBuyer), Value.int .i8 ((gt xs173 x172).fItem), Value.int .i16 ((gt xs173 x172).fNumber), Value.int .i16 ((gt xs173 x172).fDay)] := hR199
    (try simp only [go_sem, ↓reduceIte, Nat.reduceEqDiff, reduceCtorEq, Nat.reduceAdd, Nat.reduceLeDiff, Nat.reduceSub, Nat.reduceMul, Int.reduceEq, Nat.reduceBEq, t186, t187, t191, hn192, hc193, hia197, hrd198])
    refine awL_wrR (sub := 0) (r' := [Value.int .i8 (IntKind.i8.wrap x171), Value.int .i8 ((gt xs173 x172).fItem), Value.int .i16 ((gt xs173 x172).fNumber), Value.int .i16 ((gt xs173 x172).fDay)]) 0 hl182 hL184 rfl hkb200 hlt202 hg201 (by (try simp only [go_sem, ↓reduceIte, Nat.reduceEqDiff, reduceCtorEq, Nat.reduceAdd, Nat.reduceLeDiff, Nat.reduceSub, Nat.reduceMul, Int.reduceEq, Nat.reduceBEq, t186, t187, t191, hn192, hc193, hia197, hrd198]) <;> rfl) rfl (by (try simp only [go_sem, ↓reduceIte, Nat.reduceEqDiff, reduceCtorEq, Nat.reduceAdd, Nat.reduceLeDiff, Nat.reduceSub, Nat.reduceMul, Int.reduceEq, Nat.reduceBEq, t186, t187, t191, hn192, hc193, hia197, hrd198]) <;> rfl) (by (try simp only [go_sem, ↓reduceIte, Nat.reduceEqDiff, reduceCtorEq, Nat.reduceAdd, Nat.reduceLeDiff, Nat.reduceSub, Nat.reduceMul, Int.reduceEq, Nat.reduceBEq, t186, t187, t191, hn192, hc193, hia197, hrd198]) <;> rfl) fun H203 hl204 hL205 => ?_
    have hr206 := hr177.set (x172).toNat (show R_Return H (⟨(IntKind.i8.wrap x171), (gt xs173 x172).fItem, (gt xs173 x172).fNumber, (gt xs173 x172).fDay⟩ : S_Return) [Value.int .i8 (IntKind.i8.wrap x171), Value.int .i8 ((gt xs173 x172).fItem), Value.int .i16 ((gt xs173 x172).fNumber), Value.int .i16 ((gt xs173 x172).fDay)] from rfl)
    obtain ⟨xs207, hxs208⟩ : ∃ ys, ys = (xs173.set (x172).toNat (⟨(IntKind.i8.wrap x171), (gt xs173 x172).fItem, (gt xs173 x172).fNumber, (gt xs173 x172).fDay⟩ : S_Return)) := ⟨_, rfl⟩
    rw [← hxs208] at hr206
    have h := h xs207 hxs208
    generalize (rows176.set (x172).toNat [Value.int .i8 (IntKind.i8.wrap x171), Value.int .i8 ((gt xs173 x172).fItem), Value.int .i16 ((gt xs173 x172).fNumber), Value.int .i16 ((gt xs173 x172).fDay)]) = rows209 at hL205 hr206
    obtain ⟨hi210, h⟩ := h
    obtain ⟨b211, c212, hkb216, hia213, hrd214, hg217, hlt218, hR215⟩ := hL205.atR 0 rfl hr206 (k := .i64) hi210
    obtain rfl : c212 = [Value.int .i8 ((gt xs207 x172).fBuyer), Value.int .i8 ((gt xs207 x172).fItem), Value.int .i16 ((gt xs207 x172).fNumber), Value.int .i16 ((gt xs207 x172).fDay)] := hR215
    (try simp only [go_sem, ↓reduceIte, Nat.reduceEqDiff, reduceCtorEq, Nat.reduceAdd, Nat.reduceLeDiff, Nat.reduceSub, Nat.reduceMul, Int.reduceEq, Nat.reduceBEq, t186, t187, t191, hn192, hc193, hia213, hrd214])
    refine awL_wrR (sub := 1) (r' := [Value.int .i8 ((gt xs207 x172).fBuyer), Value.int .i8 (IntKind.i8.wrap (IntKind.i64.wrap (x171 + 1))), Value.int .i16 ((gt xs207 x172).fNumber), Value.int .i16 ((gt xs207 x172).fDay)]) 0 hl204 hL205 rfl hkb216 hlt218 hg217 (by (try simp only [go_sem, ↓reduceIte, Nat.reduceEqDiff, reduceCtorEq, Nat.reduceAdd, Nat.reduceLeDiff, Nat.reduceSub, Nat.reduceMul, Int.reduceEq, Nat.reduceBEq, t186, t187, t191, hn192, hc193, hia213, hrd214]) <;> rfl) rfl (by (try simp only [go_sem, ↓reduceIte, Nat.reduceEqDiff, reduceCtorEq, Nat.reduceAdd, Nat.reduceLeDiff, Nat.reduceSub, Nat.reduceMul, Int.reduceEq, Nat.reduceBEq, t186, t187, t191, hn192, hc193, hia213, hrd214]) <;> rfl) (by (try simp only [go_sem, ↓reduceIte, Nat.reduceEqDiff, reduceCtorEq, Nat.reduceAdd, Nat.reduceLeDiff, Nat.reduceSub, Nat.reduceMul, Int.reduceEq, Nat.reduceBEq, t186, t187, t191, hn192, hc193, hia213, hrd214]) <;> rfl) fun H219 hl220 hL221 => ?_
    have hr222 := hr206.set (x172).toNat (show R_Return H (⟨(gt xs207 x172).fBuyer, (IntKind.i8.wrap (IntKind.i64.wrap (x171 + 1))), (gt xs207 x172).fNumber, (gt xs207 x172).fDay⟩ : S_Return) [Value.int .i8 ((gt xs207 x172).fBuyer), Value.int .i8 (IntKind.i8.wrap (IntKind.i64.wrap (x171 + 1))), Value.int .i16 ((gt xs207 x172).fNumber), Value.int .i16 ((gt xs207 x172).fDay)] from rfl)
    obtain ⟨xs223, hxs224⟩ : ∃ ys, ys = (xs207.set (x172).toNat (⟨(gt xs207 x172).fBuyer, (IntKind.i8.wrap (IntKind.i64.wrap (x171 + 1))), (gt xs207 x172).fNumber, (gt xs207 x172).fDay⟩ : S_Return)) := ⟨_, rfl⟩
    rw [← hxs224] at hr222
    have h := h xs223 hxs224
    generalize (rows209.set (x172).toNat [Value.int .i8 ((gt xs207 x172).fBuyer), Value.int .i8 (IntKind.i8.wrap (IntKind.i64.wrap (x171 + 1))), Value.int .i16 ((gt xs207 x172).fNumber), Value.int .i16 ((gt xs207 x172).fDay)]) = rows225 at hL221 hr222
    obtain ⟨hi226, h⟩ := h
    obtain ⟨b227, c228, hkb232, hia229, hrd230, hg233, hlt234, hR231⟩ := hL221.atR 0 rfl hr222 (k := .i64) hi226
    obtain rfl : c228 = [Value.int .i8 ((gt xs223 x172).fBuyer), Value.int .i8 ((gt xs223 x172).fItem), Value.int .i16 ((gt xs223 x172).fNumber), Value.int .i16 ((gt xs223 x172).fDay)] := hR231
    (try simp only [go_sem, ↓reduceIte, Nat.reduceEqDiff, reduceCtorEq, Nat.reduceAdd, Nat.reduceLeDiff, Nat.reduceSub, Nat.reduceMul, Int.reduceEq, Nat.reduceBEq, t186, t187, t191, hn192, hc193, hia229, hrd230])
    refine awL_wrR (sub := 2) (r' := [Value.int .i8 ((gt xs223 x172).fBuyer), Value.int .i8 ((gt xs223 x172).fItem), Value.int .i16 (IntKind.i16.wrap (IntKind.i64.wrap ((IntKind.i64.wrap (x171 + 1)) + 1))), Value.int .i16 ((gt xs223 x172).fDay)]) 0 hl220 hL221 rfl hkb232 hlt234 hg233 (by (try simp only [go_sem, ↓reduceIte, Nat.reduceEqDiff, reduceCtorEq, Nat.reduceAdd, Nat.reduceLeDiff, Nat.reduceSub, Nat.reduceMul, Int.reduceEq, Nat.reduceBEq, t186, t187, t191, hn192, hc193, hia229, hrd230]) <;> rfl) rfl (by (try simp only [go_sem, ↓reduceIte, Nat.reduceEqDiff, reduceCtorEq, Nat.reduceAdd, Nat.reduceLeDiff, Nat.reduceSub, Nat.reduceMul, Int.reduceEq, Nat.reduceBEq, t186, t187, t191, hn192, hc193, hia229, hrd230]) <;> rfl) (by (try simp only [go_sem, ↓reduceIte, Nat.reduceEqDiff, reduceCtorEq, Nat.reduceAdd, Nat.reduceLeDiff, Nat.reduceSub, Nat.reduceMul, Int.reduceEq, Nat.reduceBEq, t186, t187, t191, hn192, hc193, hia229, hrd230]) <;> rfl) fun H235 hl236 hL237 => ?_
    have hr238 := hr222.set (x172).toNat (show R_Return H (⟨(gt xs223 x172).fBuyer, (gt xs223 x172).fItem, (IntKind.i16.wrap (IntKind.i64.wrap ((IntKind.i64.wrap (x171 + 1)) + 1))), (gt xs223 x172).fDay⟩ : S_Return) [Value.int .i8 ((gt xs223 x172).fBuyer), Value.int .i8 ((gt xs223 x172).fItem), Value.int .i16 (IntKind.i16.wrap (IntKind.i64.wrap ((IntKind.i64.wrap (x171 + 1)) + 1))), Value.int .i16 ((gt xs223 x172).fDay)] from rfl)
    obtain ⟨xs239, hxs240⟩ : ∃ ys, ys = (xs223.set (x172).toNat (⟨(gt xs223 x172).fBuyer, (gt xs223 x172).fItem, (IntKind.i16.wrap (IntKind.i64.wrap ((IntKind.i64.wrap (x171 + 1)) + 1))), (gt xs223 x172).fDay⟩ : S_Return)) := ⟨_, rfl⟩
    rw [← hxs240] at hr238
    have h := h xs239 hxs240
    generalize (rows225.set (x172).toNat [Value.int .i8 ((gt xs223 x172).fBuyer), Value.int .i8 ((gt xs223 x172).fItem), Value.int .i16 (IntKind.i16.wrap (IntKind.i64.wrap ((IntKind.i64.wrap (x171 + 1)) + 1))), Value.int .i16 ((gt xs223 x172).fDay)]) = rows241 at hL237 hr238
    obtain ⟨hi242, h⟩ := h
    obtain ⟨b243, c244, hkb248, hia245, hrd246, hg249, hlt250, hR247⟩ := hL237.atR 0 rfl hr238 (k := .i64) hi242
    obtain rfl : c244 = [Value.int .i8 ((gt xs239 x172).fBuyer), Value.int .i8 ((gt xs239 x172).fItem), Value.int .i16 ((gt xs239 x172).fNumber), Value.int .i16 ((gt xs239 x172).fDay)] := hR247
    (try simp only [go_sem, ↓reduceIte, Nat.reduceEqDiff, reduceCtorEq, Nat.reduceAdd, Nat.reduceLeDiff, Nat.reduceSub, Nat.reduceMul, Int.reduceEq, Nat.reduceBEq, t186, t187, t191, hn192, hc193, hia245, hrd246])
    refine awL_wrR (sub := 3) (r' := [Value.int .i8 ((gt xs239 x172).fBuyer), Value.int .i8 ((gt xs239 x172).fItem), Value.int .i16 ((gt xs239 x172).fNumber), Value.int .i16 (IntKind.i16.wrap (IntKind.i64.wrap ((IntKind.i64.wrap ((IntKind.i64.wrap (x171 + 1)) + 1)) + 1)))]) 0 hl236 hL237 rfl hkb248 hlt250 hg249 (by (try simp only [go_sem, ↓reduceIte, Nat.reduceEqDiff, reduceCtorEq, Nat.reduceAdd, Nat.reduceLeDiff, Nat.reduceSub, Nat.reduceMul, Int.reduceEq, Nat.reduceBEq, t186, t187, t191, hn192, hc193, hia245, hrd246]) <;> rfl) rfl (by (try simp only [go_sem, ↓reduceIte, Nat.reduceEqDiff, reduceCtorEq, Nat.reduceAdd, Nat.reduceLeDiff, Nat.reduceSub, Nat.reduceMul, Int.reduceEq, Nat.reduceBEq, t186, t187, t191, hn192, hc193, hia245, hrd246]) <;> rfl) (by (try simp only [go_sem, ↓reduceIte, Nat.reduceEqDiff, reduceCtorEq, Nat.reduceAdd, Nat.reduceLeDiff, Nat.reduceSub, Nat.reduceMul, Int.reduceEq, Nat.reduceBEq, t186, t187, t191, hn192, hc193, hia245, hrd246]) <;> rfl) fun H251 hl252 hL253 => ?_
    have hr254 := hr238.set (x172).toNat (show R_Return H (⟨(gt xs239 x172).fBuyer, (gt xs239 x172).fItem, (gt xs239 x172).fNumber, (IntKind.i16.wrap (IntKind.i64.wrap ((IntKind.i64.wrap ((IntKind.i64.wrap (x171 + 1)) + 1)) + 1)))⟩ : S_Return) [Value.int .i8 ((gt xs239 x172).fBuyer), Value.int .i8 ((gt xs239 x172).fItem), Value.int .i16 ((gt xs239 x172).fNumber), Value.int .i16 (IntKind.i16.wrap (IntKind.i64.wrap ((IntKind.i64.wrap ((IntKind.i64.wrap (x171 + 1)) + 1)) + 1)))] from rfl)
    obtain ⟨xs255, hxs256⟩ : ∃ ys, ys = (xs239.set (x172).toNat (⟨(gt xs239 x172).fBuyer, (gt xs239 x172).fItem, (gt xs239 x172).fNumber, (IntKind.i16.wrap (IntKind.i64.wrap ((IntKind.i64.wrap ((IntKind.i64.wrap (x171 + 1)) + 1)) + 1)))⟩ : S_Return)) := ⟨_, rfl⟩
    rw [← hxs256] at hr254
    have h := h xs255 hxs256
    generalize (rows241.set (x172).toNat [Value.int .i8 ((gt xs239 x172).fBuyer), Value.int .i8 ((gt xs239 x172).fItem), Value.int .i16 ((gt xs239 x172).fNumber), Value.int .i16 (IntKind.i16.wrap (IntKind.i64.wrap ((IntKind.i64.wrap ((IntKind.i64.wrap (x171 + 1)) + 1)) + 1)))]) = rows257 at hL253 hr254
    obtain ⟨m189, hm190, h⟩ := h
    (try simp only [go_sem, ↓reduceIte, Nat.reduceEqDiff, reduceCtorEq, Nat.reduceAdd, Nat.reduceLeDiff, Nat.reduceSub, Nat.reduceMul, Int.reduceEq, Nat.reduceBEq, t186, t187, t191, hn192, hc193, hia245])
    exact ⟨m189, H251, hm190, Hp.sub.refl _, (IntKind.i64.wrap ((IntKind.i64.wrap ((IntKind.i64.wrap ((IntKind.i64.wrap (x171 + 1)) + 1)) + 1)) + 1)), (IntKind.i64.wrap (x172 + 1)), xs255, rows257, h, (by (try simp only [go_sem, ↓reduceIte, Nat.reduceEqDiff, reduceCtorEq, Nat.reduceAdd, Nat.reduceLeDiff, Nat.reduceSub, Nat.reduceMul, Int.reduceEq, Nat.reduceBEq, t186, t187, t191, hn192, hc193, hia245]) <;> rfl), (by (try simp only [go_sem, ↓reduceIte, Nat.reduceEqDiff, reduceCtorEq, Nat.reduceAdd, Nat.reduceLeDiff, Nat.reduceSub, Nat.reduceMul, Int.reduceEq, Nat.reduceBEq, t186, t187, t191, hn192, hc193, hia245]) <;> rfl), hL253, hr254⟩
  | false =>
    have h := h.2 hc193
    (try simp only [go_sem, ↓reduceIte, Nat.reduceEqDiff, reduceCtorEq, Nat.reduceAdd, Nat.reduceLeDiff, Nat.reduceSub, Nat.reduceMul, Int.reduceEq, Nat.reduceBEq, t186, t187, t191, hn192, hc193])
    exact retQ_r1 (by (try simp only [go_sem, ↓reduceIte, Nat.reduceEqDiff, reduceCtorEq, Nat.reduceAdd, Nat.reduceLeDiff, Nat.reduceSub, Nat.reduceMul, Int.reduceEq, Nat.reduceBEq, t186, t187, t191, hn192, hc193]) <;> rfl) H180 (Hp.sub.refl _) (hK _ _ h H180 rows176 hl182 (hL184.sel [0] (by decide)) hr177)
def w_laws_markInt64S (a_ : (List Int)) (k_ : Int) (Q : Int → (List Int) → Prop) : Prop := (∃ I82 : Nat → Int → Int → (List Int) → Prop, (∃ m, I82 m k_ 0 a_) ∧ (∀ (m92 : Nat) (x75 : Int) (x76 : Int) (xs77 : List Int), I82 m92 x75 x76 xs77 → (((decide (x76 < (xs77.length : Int))) = true → (In x76 xs77.length ∧ (∀ xs111, xs111 = (xs77.set (x76).toNat x75) → (∃ m93, m93 < m92 ∧ I82 m93 (IntKind.i64.wrap (x75 + 1)) (IntKind.i64.wrap (x76 + 1)) xs111)))) ∧ ((decide (x76 < (xs77.length : Int))) = false → Q x75 xs77))))
theorem k_laws_markInt64S {a_ : (List Int)} {k_ : Int} {Q : Int → (List Int) → Prop} (h : w_laws_markInt64S a_ k_ Q) {H H0 : Hp} {kba_ : Option Nat} {tya_ : TypeId} {va_ : Value} {rowsa_ : List (List Value)} (hH : H = H0.minus kba_) (hoa_ : E.ok H0 (.own kba_ tya_ 1 va_ rowsa_)) (ra_ : Rows (RI .i64) H a_ rowsa_) {K : Value → Hp → Prop} (hK : ∀ (r0 : Int) (x' : (List Int)), Q r0 x' → ∀ (H' : Hp) (rows' : List (List Value)), Live H' → Loc H H' ([] ++ [.own kba_ tya_ 1 va_ rows']) → Rows (RI .i64) H x' rows' → K (Value.int .i64 r0) H') :
    ACalls Go.Proofs.Try.prog n_laws_markInt64S #[va_, Value.int .i64 k_] H0 K := by
  unfold w_laws_markInt64S at h
  refine acalls_go fn_laws_markInt64S rfl fun hl => ?_
  simp only [c_laws_markInt64S]
  have hL := Loc.one hH hoa_
  (try simp only [go_sem, ↓reduceIte, Nat.reduceEqDiff, reduceCtorEq, Nat.reduceAdd, Nat.reduceLeDiff, Nat.reduceSub, Nat.reduceMul, Int.reduceEq, Nat.reduceBEq])
  obtain ⟨I82, ⟨m0, h0⟩, hSI82⟩ := h
  refine aw_loopM hl (fun m92 T' H' => ∃ x75 x76 xs77 rows80, I82 m92 x75 x76 xs77 ∧ T' 1 = Value.int .i64 x75 ∧ T' 5 = Value.int .i64 x76 ∧ Loc H H' [.own kba_ tya_ 1 va_ rows80] ∧ Rows (RI .i64) H xs77 rows80) m0 H0 (Hp.sub.refl _) ⟨k_, 0, a_, rowsa_, h0, (by (try simp only [go_sem, ↓reduceIte, Nat.reduceEqDiff, reduceCtorEq, Nat.reduceAdd, Nat.reduceLeDiff, Nat.reduceSub, Nat.reduceMul, Int.reduceEq, Nat.reduceBEq]) <;> rfl), (by (try simp only [go_sem, ↓reduceIte, Nat.reduceEqDiff, reduceCtorEq, Nat.reduceAdd, Nat.reduceLeDiff, Nat.reduceSub, Nat.reduceMul, Int.reduceEq, Nat.reduceBEq]) <;> rfl), hL, ra_⟩ ?_
  rintro m92 T85 H84 hl86 ho87 ⟨x75, x76, xs77, rows80, hI89, t90, t91, hL88, hr81⟩
  have t95 : T85 0 = va_ := by rw [ho87.get rfl]; (try simp only [go_sem, ↓reduceIte, Nat.reduceEqDiff, reduceCtorEq, Nat.reduceAdd, Nat.reduceLeDiff, Nat.reduceSub, Nat.reduceMul, Int.reduceEq, Nat.reduceBEq])
  have h := hSI82 m92 x75 x76 xs77 hI89
  have hn96 := hL88.lenR 0 rfl hr81
  (try simp only [go_sem, ↓reduceIte, Nat.reduceEqDiff, reduceCtorEq, Nat.reduceAdd, Nat.reduceLeDiff, Nat.reduceSub, Nat.reduceMul, Int.reduceEq, Nat.reduceBEq, t90, t91, t95, hn96])
  cases hc97 : (decide (x76 < (xs77.length : Int))) with
  | true =>
    have h := h.1 hc97
    obtain ⟨hi98, h⟩ := h
    obtain ⟨b99, c100, hkb104, hia101, hrd102, hg105, hlt106, hR103⟩ := hL88.atR 0 rfl hr81 (k := .i64) hi98
    obtain rfl : c100 = [Value.int .i64 (gt xs77 x76)] := hR103
    (try simp only [go_sem, ↓reduceIte, Nat.reduceEqDiff, reduceCtorEq, Nat.reduceAdd, Nat.reduceLeDiff, Nat.reduceSub, Nat.reduceMul, Int.reduceEq, Nat.reduceBEq, t90, t91, t95, hn96, hc97, hia101, hrd102])
    refine awL_wrR (sub := 0) (r' := [Value.int .i64 x75]) 0 hl86 hL88 rfl hkb104 hlt106 hg105 (by (try simp only [go_sem, ↓reduceIte, Nat.reduceEqDiff, reduceCtorEq, Nat.reduceAdd, Nat.reduceLeDiff, Nat.reduceSub, Nat.reduceMul, Int.reduceEq, Nat.reduceBEq, t90, t91, t95, hn96, hc97, hia101, hrd102]) <;> rfl) rfl (by (try simp only [go_sem, ↓reduceIte, Nat.reduceEqDiff, reduceCtorEq, Nat.reduceAdd, Nat.reduceLeDiff, Nat.reduceSub, Nat.reduceMul, Int.reduceEq, Nat.reduceBEq, t90, t91, t95, hn96, hc97, hia101, hrd102]) <;> rfl) (by (try simp only [go_sem, ↓reduceIte, Nat.reduceEqDiff, reduceCtorEq, Nat.reduceAdd, Nat.reduceLeDiff, Nat.reduceSub, Nat.reduceMul, Int.reduceEq, Nat.reduceBEq, t90, t91, t95, hn96, hc97, hia101, hrd102]) <;> rfl) fun H107 hl108 hL109 => ?_
    have hr110 := hr81.set (x76).toNat (show (RI .i64) H x75 [Value.int .i64 x75] from rfl)
    obtain ⟨xs111, hxs112⟩ : ∃ ys, ys = (xs77.set (x76).toNat x75) := ⟨_, rfl⟩
    rw [← hxs112] at hr110
    have h := h xs111 hxs112
    generalize (rows80.set (x76).toNat [Value.int .i64 x75]) = rows113 at hL109 hr110
    obtain ⟨m93, hm94, h⟩ := h
    (try simp only [go_sem, ↓reduceIte, Nat.reduceEqDiff, reduceCtorEq, Nat.reduceAdd, Nat.reduceLeDiff, Nat.reduceSub, Nat.reduceMul, Int.reduceEq, Nat.reduceBEq, t90, t91, t95, hn96, hc97, hia101])
    exact ⟨m93, H107, hm94, Hp.sub.refl _, (IntKind.i64.wrap (x75 + 1)), (IntKind.i64.wrap (x76 + 1)), xs111, rows113, h, (by (try simp only [go_sem, ↓reduceIte, Nat.reduceEqDiff, reduceCtorEq, Nat.reduceAdd, Nat.reduceLeDiff, Nat.reduceSub, Nat.reduceMul, Int.reduceEq, Nat.reduceBEq, t90, t91, t95, hn96, hc97, hia101]) <;> rfl), (by (try simp only [go_sem, ↓reduceIte, Nat.reduceEqDiff, reduceCtorEq, Nat.reduceAdd, Nat.reduceLeDiff, Nat.reduceSub, Nat.reduceMul, Int.reduceEq, Nat.reduceBEq, t90, t91, t95, hn96, hc97, hia101]) <;> rfl), hL109, hr110⟩
  | false =>
    have h := h.2 hc97
    (try simp only [go_sem, ↓reduceIte, Nat.reduceEqDiff, reduceCtorEq, Nat.reduceAdd, Nat.reduceLeDiff, Nat.reduceSub, Nat.reduceMul, Int.reduceEq, Nat.reduceBEq, t90, t91, t95, hn96, hc97])
    exact retQ_r1 (by (try simp only [go_sem, ↓reduceIte, Nat.reduceEqDiff, reduceCtorEq, Nat.reduceAdd, Nat.reduceLeDiff, Nat.reduceSub, Nat.reduceMul, Int.reduceEq, Nat.reduceBEq, t90, t91, t95, hn96, hc97]) <;> rfl) H84 (Hp.sub.refl _) (hK _ _ h H84 rows80 hl86 (hL88.sel [0] (by decide)) hr81)
def w_laws_heldInt64S (a_ : (List Int)) (k_ : Int) (Q : Int → Prop) : Prop := a_.length ≤ 1152921504606846976 → (∃ I29 : Nat → Int → Int → Prop, (∃ m, I29 m k_ 0) ∧ (∀ (m39 : Nat) (x27 : Int) (x28 : Int), I29 m39 x27 x28 → (((decide (x28 < (a_.length : Int))) = true → (In x28 a_.length ∧ (((!decide ((gt a_ x28) = x27)) = true → Q (-1)) ∧ ((!decide ((gt a_ x28) = x27)) = false → (∃ m40, m40 < m39 ∧ I29 m40 (IntKind.i64.wrap (x27 + 1)) (IntKind.i64.wrap (x28 + 1))))))) ∧ ((decide (x28 < (a_.length : Int))) = false → Q x27))))
theorem k_laws_heldInt64S {a_ : (List Int)} {k_ : Int} {Q : Int → Prop} (h : w_laws_heldInt64S a_ k_ Q) {H : Hp} {va_ : Value} (ra_ : SlR (RI .i64) 1 H a_ va_) {K : Value → Hp → Prop} (hK : ∀ (r0 : Int), Q r0 → K (Value.int .i64 r0) H) :
    ACalls Go.Proofs.Try.prog n_laws_heldInt64S #[va_, Value.int .i64 k_] H K := by
  unfold w_laws_heldInt64S at h
  have h := h ra_.le
  refine acalls_go fn_laws_heldInt64S rfl fun hl => ?_
  simp only [c_laws_heldInt64S]
  have hL := Loc.nil H
  (try simp only [go_sem, ↓reduceIte, Nat.reduceEqDiff, reduceCtorEq, Nat.reduceAdd, Nat.reduceLeDiff, Nat.reduceSub, Nat.reduceMul, Int.reduceEq, Nat.reduceBEq])
  obtain ⟨I29, ⟨m0, h0⟩, hSI29⟩ := h
  refine aw_loopM hl (fun m39 T' H' => ∃ x27 x28, I29 m39 x27 x28 ∧ T' 1 = Value.int .i64 x27 ∧ T' 5 = Value.int .i64 x28 ∧ Loc H H' []) m0 H (Hp.sub.refl _) ⟨k_, 0, h0, (by (try simp only [go_sem, ↓reduceIte, Nat.reduceEqDiff, reduceCtorEq, Nat.reduceAdd, Nat.reduceLeDiff, Nat.reduceSub, Nat.reduceMul, Int.reduceEq, Nat.reduceBEq]) <;> rfl), (by (try simp only [go_sem, ↓reduceIte, Nat.reduceEqDiff, reduceCtorEq, Nat.reduceAdd, Nat.reduceLeDiff, Nat.reduceSub, Nat.reduceMul, Int.reduceEq, Nat.reduceBEq]) <;> rfl), hL⟩ ?_
  rintro m39 T32 H31 hl33 ho34 ⟨x27, x28, hI36, t37, t38, hL35⟩
  have t42 : T32 0 = va_ := by rw [ho34.get rfl]; (try simp only [go_sem, ↓reduceIte, Nat.reduceEqDiff, reduceCtorEq, Nat.reduceAdd, Nat.reduceLeDiff, Nat.reduceSub, Nat.reduceMul, Int.reduceEq, Nat.reduceBEq])
  have h := hSI29 m39 x27 x28 hI36
  have hn43 := ra_.len
  (try simp only [go_sem, ↓reduceIte, Nat.reduceEqDiff, reduceCtorEq, Nat.reduceAdd, Nat.reduceLeDiff, Nat.reduceSub, Nat.reduceMul, Int.reduceEq, Nat.reduceBEq, t37, t38, t42, hn43])
  cases hc44 : (decide (x28 < (a_.length : Int))) with
  | true =>
    have h := h.1 hc44
    obtain ⟨hi45, h⟩ := h
    obtain ⟨b46, o51, c47, hia48, hrd49, hR50⟩ := SlR.atB ra_ hL35.sub (k := .i64) hi45
    obtain rfl : c47 = [Value.int .i64 (gt a_ x28)] := hR50
    (try simp only [go_sem, ↓reduceIte, Nat.reduceEqDiff, reduceCtorEq, Nat.reduceAdd, Nat.reduceLeDiff, Nat.reduceSub, Nat.reduceMul, Int.reduceEq, Nat.reduceBEq, t37, t38, t42, hn43, hc44, hia48, hrd49])
    cases hc52 : (!decide ((gt a_ x28) = x27)) with
    | true =>
      have h := h.1 hc52
      (try simp only [go_sem, ↓reduceIte, Nat.reduceEqDiff, reduceCtorEq, Nat.reduceAdd, Nat.reduceLeDiff, Nat.reduceSub, Nat.reduceMul, Int.reduceEq, Nat.reduceBEq, t37, t38, t42, hn43, hc44, hia48, hc52, hrd49])
      exact retQ_r1 (by (try simp only [go_sem, ↓reduceIte, Nat.reduceEqDiff, reduceCtorEq, Nat.reduceAdd, Nat.reduceLeDiff, Nat.reduceSub, Nat.reduceMul, Int.reduceEq, Nat.reduceBEq, t37, t38, t42, hn43, hc44, hia48, hc52, hrd49]) <;> rfl) H hL35.sub (hK _ h)
    | false =>
      have h := h.2 hc52
      obtain ⟨m40, hm41, h⟩ := h
      (try simp only [go_sem, ↓reduceIte, Nat.reduceEqDiff, reduceCtorEq, Nat.reduceAdd, Nat.reduceLeDiff, Nat.reduceSub, Nat.reduceMul, Int.reduceEq, Nat.reduceBEq, t37, t38, t42, hn43, hc44, hia48, hc52, hrd49])
      exact ⟨m40, H31, hm41, Hp.sub.refl _, (IntKind.i64.wrap (x27 + 1)), (IntKind.i64.wrap (x28 + 1)), h, (by (try simp only [go_sem, ↓reduceIte, Nat.reduceEqDiff, reduceCtorEq, Nat.reduceAdd, Nat.reduceLeDiff, Nat.reduceSub, Nat.reduceMul, Int.reduceEq, Nat.reduceBEq, t37, t38, t42, hn43, hc44, hia48, hc52, hrd49]) <;> rfl), (by (try simp only [go_sem, ↓reduceIte, Nat.reduceEqDiff, reduceCtorEq, Nat.reduceAdd, Nat.reduceLeDiff, Nat.reduceSub, Nat.reduceMul, Int.reduceEq, Nat.reduceBEq, t37, t38, t42, hn43, hc44, hia48, hc52, hrd49]) <;> rfl), hL35⟩
  | false =>
    have h := h.2 hc44
    (try simp only [go_sem, ↓reduceIte, Nat.reduceEqDiff, reduceCtorEq, Nat.reduceAdd, Nat.reduceLeDiff, Nat.reduceSub, Nat.reduceMul, Int.reduceEq, Nat.reduceBEq, t37, t38, t42, hn43, hc44])
    exact retQ_r1 (by (try simp only [go_sem, ↓reduceIte, Nat.reduceEqDiff, reduceCtorEq, Nat.reduceAdd, Nat.reduceLeDiff, Nat.reduceSub, Nat.reduceMul, Int.reduceEq, Nat.reduceBEq, t37, t38, t42, hn43, hc44]) <;> rfl) H hL35.sub (hK _ h)
def w_laws_FnExactLeftOver (aOrders_ : (List S_Order)) (aReturns_ : (List S_Return)) (aDays_ : Int) (Q : Bool → Prop) : Prop := aOrders_.length ≤ 1152921504606846976 → aReturns_.length ≤ 1152921504606846976 → (w_laws_szOrderS aOrders_ 1048576 fun r1 => (((decide (r1 < 0)) = true → Q true) ∧ ((decide (r1 < 0)) = false → (w_laws_szReturnS aReturns_ r1 fun r4 => (((decide (r4 < 0)) = true → Q true) ∧ ((decide (r4 < 0)) = false → (w_laws_toOrderS aOrders_ fun r7 => (w_laws_toReturnS aReturns_ fun r18 => (r7.length ≤ 1152921504606846976 ∧ (r18.length ≤ 1152921504606846976 ∧ (w_spec_LeftOver r7 r18 aDays_ fun r31 r32 => (w_laws_toOrderS aOrders_ fun r43 => (w_laws_toReturnS aReturns_ fun r54 => (r43.length ≤ 1152921504606846976 ∧ (r54.length ≤ 1152921504606846976 ∧ (w_impl_LeftOver r43 r54 aDays_ fun r67 r68 => (r67.length ≤ 1152921504606846976 ∧ (r31.length ≤ 1152921504606846976 ∧ (w_laws_eqInt64S r67 r31 fun r81 => ((((!r81) || (!decide (r68 = r32))) = true → Q false) ∧ (((!r81) || (!decide (r68 = r32))) = false → (w_laws_toOrderS aOrders_ fun r100 => (r100.length ≤ 1152921504606846976 ∧ (w_laws_eqOrderS r43 r100 fun r112 => (((!r112) = true → Q false) ∧ ((!r112) = false → (w_laws_toReturnS aReturns_ fun r115 => (r115.length ≤ 1152921504606846976 ∧ (w_laws_eqReturnS r54 r115 fun r127 => (((!r127) = true → Q false) ∧ ((!r127) = false → (w_laws_markOrderS r43 1 fun r130 xs136 => (w_laws_markReturnS r54 r130 fun r139 xs145 => (∃ k149 : Bool → Prop, (∀ x150, k149 x150 → (((x150 || (!decide (r68 = r32))) = true → Q false) ∧ ((x150 || (!decide (r68 = r32))) = false → (w_laws_markInt64S r67 1 fun r182 xs188 => (xs188.length ≤ 1152921504606846976 ∧ (w_laws_heldInt64S xs188 1 fun r192 => (((decide (r192 < 0)) = true → Q false) ∧ ((decide (r192 < 0)) = false → (((!decide (r192 = r182)) = true → Q false) ∧ ((!decide (r192 = r182)) = false → (w_laws_toOrderS aOrders_ fun r196 => (w_laws_toReturnS aReturns_ fun r207 => (r196.length ≤ 1152921504606846976 ∧ (r207.length ≤ 1152921504606846976 ∧ (w_impl_LeftOver r196 r207 aDays_ fun r220 r221 => (r220.length ≤ 1152921504606846976 ∧ (w_laws_eqInt64S r220 r31 fun r233 => ((((!r233) || (!decide (r221 = r32))) = true → Q false) ∧ (((!r233) || (!decide (r221 = r32))) = false → (w_laws_heldInt64S xs188 1 fun r245 => (((decide (r245 < 0)) = true → Q false) ∧ ((decide (r245 < 0)) = false → (((!decide (r245 = r182)) = true → Q false) ∧ ((!decide (r245 = r182)) = false → Q true)))))))))))))))))))))))) ∧ ((decide (r139 < 0)) = false → (w_laws_eqInt64S r67 r31 fun r151 => k149 (!r151))) ∧ ((decide (r139 < 0)) = true → k149 true)))))))))))))))))))))))))))))))))))
theorem k_laws_FnExactLeftOver {aOrders_ : (List S_Order)} {aReturns_ : (List S_Return)} {aDays_ : Int} {Q : Bool → Prop} (h : w_laws_FnExactLeftOver aOrders_ aReturns_ aDays_ Q) {H : Hp} {vaOrders_ : Value} (raOrders_ : SlR R_Order 5 H aOrders_ vaOrders_) {vaReturns_ : Value} (raReturns_ : SlR R_Return 4 H aReturns_ vaReturns_) {K : Value → Hp → Prop} (hK : ∀ (r0 : Bool), Q r0 → K (Value.bool r0) H) :
    ACalls Go.Proofs.Try.prog n_laws_FnExactLeftOver #[vaOrders_, vaReturns_, Value.int .i64 aDays_] H K := by
  unfold w_laws_FnExactLeftOver at h
  have h := h raOrders_.le
  have h := h raReturns_.le
  refine acalls_go fn_laws_FnExactLeftOver rfl fun hl => ?_
  simp only [c_laws_FnExactLeftOver]
  have hL := Loc.nil H
  (try simp only [go_sem, ↓reduceIte, Nat.reduceEqDiff, reduceCtorEq, Nat.reduceAdd, Nat.reduceLeDiff, Nat.reduceSub, Nat.reduceMul, Int.reduceEq, Nat.reduceBEq])
  refine aw_call (by (try simp only [go_sem, ↓reduceIte, Nat.reduceEqDiff, reduceCtorEq, Nat.reduceAdd, Nat.reduceLeDiff, Nat.reduceSub, Nat.reduceMul, Int.reduceEq, Nat.reduceBEq]) <;> rfl) (by (try simp only [go_sem, ↓reduceIte, Nat.reduceEqDiff, reduceCtorEq, Nat.reduceAdd, Nat.reduceLeDiff, Nat.reduceSub, Nat.reduceMul, Int.reduceEq, Nat.reduceBEq]) <;> rfl) (k_laws_szOrderS h (raOrders_.sub R_Order.ok hL.sub) fun r1 h => ?_)
  (try simp only [go_sem, ↓reduceIte, Nat.reduceEqDiff, reduceCtorEq, Nat.reduceAdd, Nat.reduceLeDiff, Nat.reduceSub, Nat.reduceMul, Int.reduceEq, Nat.reduceBEq])
  cases hc3 : (decide (r1 < 0)) with
  | true =>
    have h := h.1 hc3
    (try simp only [go_sem, ↓reduceIte, Nat.reduceEqDiff, reduceCtorEq, Nat.reduceAdd, Nat.reduceLeDiff, Nat.reduceSub, Nat.reduceMul, Int.reduceEq, Nat.reduceBEq, hc3])
    exact retQ_r1 (by (try simp only [go_sem, ↓reduceIte, Nat.reduceEqDiff, reduceCtorEq, Nat.reduceAdd, Nat.reduceLeDiff, Nat.reduceSub, Nat.reduceMul, Int.reduceEq, Nat.reduceBEq, hc3]) <;> rfl) H hL.sub (hK _ h)
  | false =>
    have h := h.2 hc3
    (try simp only [go_sem, ↓reduceIte, Nat.reduceEqDiff, reduceCtorEq, Nat.reduceAdd, Nat.reduceLeDiff, Nat.reduceSub, Nat.reduceMul, Int.reduceEq, Nat.reduceBEq, hc3])
    refine aw_call (by (try simp only [go_sem, ↓reduceIte, Nat.reduceEqDiff, reduceCtorEq, Nat.reduceAdd, Nat.reduceLeDiff, Nat.reduceSub, Nat.reduceMul, Int.reduceEq, Nat.reduceBEq, hc3]) <;> rfl) (by (try simp only [go_sem, ↓reduceIte, Nat.reduceEqDiff, reduceCtorEq, Nat.reduceAdd, Nat.reduceLeDiff, Nat.reduceSub, Nat.reduceMul, Int.reduceEq, Nat.reduceBEq, hc3]) <;> rfl) (k_laws_szReturnS h (raReturns_.sub R_Return.ok hL.sub) fun r4 h => ?_)
    (try simp only [go_sem, ↓reduceIte, Nat.reduceEqDiff, reduceCtorEq, Nat.reduceAdd, Nat.reduceLeDiff, Nat.reduceSub, Nat.reduceMul, Int.reduceEq, Nat.reduceBEq, hc3])
    cases hc6 : (decide (r4 < 0)) with
    | true =>
      have h := h.1 hc6
      (try simp only [go_sem, ↓reduceIte, Nat.reduceEqDiff, reduceCtorEq, Nat.reduceAdd, Nat.reduceLeDiff, Nat.reduceSub, Nat.reduceMul, Int.reduceEq, Nat.reduceBEq, hc3, hc6])
      exact retQ_r1 (by (try simp only [go_sem, ↓reduceIte, Nat.reduceEqDiff, reduceCtorEq, Nat.reduceAdd, Nat.reduceLeDiff, Nat.reduceSub, Nat.reduceMul, Int.reduceEq, Nat.reduceBEq, hc3, hc6]) <;> rfl) H hL.sub (hK _ h)
    | false =>
      have h := h.2 hc6
      (try simp only [go_sem, ↓reduceIte, Nat.reduceEqDiff, reduceCtorEq, Nat.reduceAdd, Nat.reduceLeDiff, Nat.reduceSub, Nat.reduceMul, Int.reduceEq, Nat.reduceBEq, hc3, hc6])
      refine aw_callL (by (try simp only [go_sem, ↓reduceIte, Nat.reduceEqDiff, reduceCtorEq, Nat.reduceAdd, Nat.reduceLeDiff, Nat.reduceSub, Nat.reduceMul, Int.reduceEq, Nat.reduceBEq, hc3, hc6]) <;> rfl) (by (try simp only [go_sem, ↓reduceIte, Nat.reduceEqDiff, reduceCtorEq, Nat.reduceAdd, Nat.reduceLeDiff, Nat.reduceSub, Nat.reduceMul, Int.reduceEq, Nat.reduceBEq, hc3, hc6]) <;> rfl) (k_laws_toOrderS h (raOrders_.sub R_Order.ok hL.sub) fun r7 h H9 kb13 v14 rows15 _ hL11 hr16 hl10 => ?_)
      have hL12 := hL.call hL11
      have hr16' : Rows R_Order H r7 rows15 := Rows.flat (fun _ _ hx => hx) hr16
      (try simp only [go_sem, ↓reduceIte, Nat.reduceEqDiff, reduceCtorEq, Nat.reduceAdd, Nat.reduceLeDiff, Nat.reduceSub, Nat.reduceMul, Int.reduceEq, Nat.reduceBEq, hc3, hc6])
      refine aw_callL (by (try simp only [go_sem, ↓reduceIte, Nat.reduceEqDiff, reduceCtorEq, Nat.reduceAdd, Nat.reduceLeDiff, Nat.reduceSub, Nat.reduceMul, Int.reduceEq, Nat.reduceBEq, hc3, hc6]) <;> rfl) (by (try simp only [go_sem, ↓reduceIte, Nat.reduceEqDiff, reduceCtorEq, Nat.reduceAdd, Nat.reduceLeDiff, Nat.reduceSub, Nat.reduceMul, Int.reduceEq, Nat.reduceBEq, hc3, hc6]) <;> rfl) (k_laws_toReturnS h (raReturns_.sub R_Return.ok hL12.sub) fun r18 h H20 kb24 v25 rows26 _ hL22 hr27 hl21 => ?_)
      have hL23 := hL12.call hL22
      have hr27' : Rows R_Return H r18 rows26 := Rows.flat (fun _ _ hx => hx) hr27
      obtain ⟨hle29, h⟩ := h
      obtain ⟨hle30, h⟩ := h
      (try simp only [go_sem, ↓reduceIte, Nat.reduceEqDiff, reduceCtorEq, Nat.reduceAdd, Nat.reduceLeDiff, Nat.reduceSub, Nat.reduceMul, Int.reduceEq, Nat.reduceBEq, hc3, hc6])
      refine aw_callL (by (try simp only [go_sem, ↓reduceIte, Nat.reduceEqDiff, reduceCtorEq, Nat.reduceAdd, Nat.reduceLeDiff, Nat.reduceSub, Nat.reduceMul, Int.reduceEq, Nat.reduceBEq, hc3, hc6]) <;> rfl) (by (try simp only [go_sem, ↓reduceIte, Nat.reduceEqDiff, reduceCtorEq, Nat.reduceAdd, Nat.reduceLeDiff, Nat.reduceSub, Nat.reduceMul, Int.reduceEq, Nat.reduceBEq, hc3, hc6]) <;> rfl) (k_spec_LeftOver h (hL23.slr R_Order.ok 1 rfl hr16' hle29) (hL23.slr R_Return.ok 0 rfl hr27' hle30) fun r31 r32 h H34 kb38 v39 rows40 _ hL36 hr41 hl35 => ?_)
      have hL37 := hL23.call hL36
      have hr41' : Rows (RI .i64) H r31 rows40 := Rows.flat (fun _ _ hx => hx) hr41
      (try simp only [go_sem, ↓reduceIte, Nat.reduceEqDiff, reduceCtorEq, Nat.reduceAdd, Nat.reduceLeDiff, Nat.reduceSub, Nat.reduceMul, Int.reduceEq, Nat.reduceBEq, hc3, hc6])
      refine aw_callL (by (try simp only [go_sem, ↓reduceIte, Nat.reduceEqDiff, reduceCtorEq, Nat.reduceAdd, Nat.reduceLeDiff, Nat.reduceSub, Nat.reduceMul, Int.reduceEq, Nat.reduceBEq, hc3, hc6]) <;> rfl) (by (try simp only [go_sem, ↓reduceIte, Nat.reduceEqDiff, reduceCtorEq, Nat.reduceAdd, Nat.reduceLeDiff, Nat.reduceSub, Nat.reduceMul, Int.reduceEq, Nat.reduceBEq, hc3, hc6]) <;> rfl) (k_laws_toOrderS h (raOrders_.sub R_Order.ok hL37.sub) fun r43 h H45 kb49 v50 rows51 _ hL47 hr52 hl46 => ?_)
      have hL48 := hL37.call hL47
      have hr52' : Rows R_Order H r43 rows51 := Rows.flat (fun _ _ hx => hx) hr52
      (try simp only [go_sem, ↓reduceIte, Nat.reduceEqDiff, reduceCtorEq, Nat.reduceAdd, Nat.reduceLeDiff, Nat.reduceSub, Nat.reduceMul, Int.reduceEq, Nat.reduceBEq, hc3, hc6])
      refine aw_callL (by (try simp only [go_sem, ↓reduceIte, Nat.reduceEqDiff, reduceCtorEq, Nat.reduceAdd, Nat.reduceLeDiff, Nat.reduceSub, Nat.reduceMul, Int.reduceEq, Nat.reduceBEq, hc3, hc6]) <;> rfl) (by (try simp only [go_sem, ↓reduceIte, Nat.reduceEqDiff, reduceCtorEq, Nat.reduceAdd, Nat.reduceLeDiff, Nat.reduceSub, Nat.reduceMul, Int.reduceEq, Nat.reduceBEq, hc3, hc6]) <;> rfl) (k_laws_toReturnS h (raReturns_.sub R_Return.ok hL48.sub) fun r54 h H56 kb60 v61 rows62 _ hL58 hr63 hl57 => ?_)
      have hL59 := hL48.call hL58
      have hr63' : Rows R_Return H r54 rows62 := Rows.flat (fun _ _ hx => hx) hr63
      obtain ⟨hle65, h⟩ := h
      obtain ⟨hle66, h⟩ := h
      (try simp only [go_sem, ↓reduceIte, Nat.reduceEqDiff, reduceCtorEq, Nat.reduceAdd, Nat.reduceLeDiff, Nat.reduceSub, Nat.reduceMul, Int.reduceEq, Nat.reduceBEq, hc3, hc6])
      refine aw_callL (by (try simp only [go_sem, ↓reduceIte, Nat.reduceEqDiff, reduceCtorEq, Nat.reduceAdd, Nat.reduceLeDiff, Nat.reduceSub, Nat.reduceMul, Int.reduceEq, Nat.reduceBEq, hc3, hc6]) <;> rfl) (by (try simp only [go_sem, ↓reduceIte, Nat.reduceEqDiff, reduceCtorEq, Nat.reduceAdd, Nat.reduceLeDiff, Nat.reduceSub, Nat.reduceMul, Int.reduceEq, Nat.reduceBEq, hc3, hc6]) <;> rfl) (k_impl_LeftOver h (hL59.slr R_Order.ok 1 rfl hr52' hle65) (hL59.slr R_Return.ok 0 rfl hr63' hle66) fun r67 r68 h H70 kb74 v75 rows76 _ hL72 hr77 hl71 => ?_)
      have hL73 := hL59.call hL72
      have hr77' : Rows (RI .i64) H r67 rows76 := Rows.flat (fun _ _ hx => hx) hr77
      obtain ⟨hle79, h⟩ := h
      obtain ⟨hle80, h⟩ := h
      (try simp only [go_sem, ↓reduceIte, Nat.reduceEqDiff, reduceCtorEq, Nat.reduceAdd, Nat.reduceLeDiff, Nat.reduceSub, Nat.reduceMul, Int.reduceEq, Nat.reduceBEq, hc3, hc6])
      refine aw_call (by (try simp only [go_sem, ↓reduceIte, Nat.reduceEqDiff, reduceCtorEq, Nat.reduceAdd, Nat.reduceLeDiff, Nat.reduceSub, Nat.reduceMul, Int.reduceEq, Nat.reduceBEq, hc3, hc6]) <;> rfl) (by (try simp only [go_sem, ↓reduceIte, Nat.reduceEqDiff, reduceCtorEq, Nat.reduceAdd, Nat.reduceLeDiff, Nat.reduceSub, Nat.reduceMul, Int.reduceEq, Nat.reduceBEq, hc3, hc6]) <;> rfl) (k_laws_eqInt64S h (hL73.slr (RI.ok .i64) 0 rfl hr77' hle79) (hL73.slr (RI.ok .i64) 3 rfl hr41' hle80) fun r81 h => ?_)
      (try simp only [go_sem, ↓reduceIte, Nat.reduceEqDiff, reduceCtorEq, Nat.reduceAdd, Nat.reduceLeDiff, Nat.reduceSub, Nat.reduceMul, Int.reduceEq, Nat.reduceBEq, hc3, hc6])
      refine aw_cut 4 (fun T' H' => T' 57 = Value.bool ((!r81) || (!decide (r68 = r32))) ∧ H' = H70) hl71 rfl ?_ (fun T84 H85 _ ho86 hj87 => ?_)
      · cases hc83 : (!r81) with
        | true =>
          simp only [opsK]
          (try simp only [go_sem, ↓reduceIte, Nat.reduceEqDiff, reduceCtorEq, Nat.reduceAdd, Nat.reduceLeDiff, Nat.reduceSub, Nat.reduceMul, Int.reduceEq, Nat.reduceBEq, hc3, hc6, hc83])
          exact ⟨by (try simp only [go_sem, ↓reduceIte, Nat.reduceEqDiff, reduceCtorEq, Nat.reduceAdd, Nat.reduceLeDiff, Nat.reduceSub, Nat.reduceMul, Int.reduceEq, Nat.reduceBEq, Bool.false_and, Bool.true_or, Bool.false_or]), rfl⟩
        | false =>
          simp only [opsK]
          (try simp only [go_sem, ↓reduceIte, Nat.reduceEqDiff, reduceCtorEq, Nat.reduceAdd, Nat.reduceLeDiff, Nat.reduceSub, Nat.reduceMul, Int.reduceEq, Nat.reduceBEq, hc3, hc6, hc83])
          exact ⟨by (try simp only [go_sem, ↓reduceIte, Nat.reduceEqDiff, reduceCtorEq, Nat.reduceAdd, Nat.reduceLeDiff, Nat.reduceSub, Nat.reduceMul, Int.reduceEq, Nat.reduceBEq, hc3, hc6, hc83, Bool.false_and, Bool.true_or, Bool.false_or]), rfl⟩
      obtain ⟨t88, hH89⟩ := hj87
      rw [hH89]
      have t90 : T84 0 = vaOrders_ := by rw [ho86.get rfl]; (try simp only [go_sem, ↓reduceIte, Nat.reduceEqDiff, reduceCtorEq, Nat.reduceAdd, Nat.reduceLeDiff, Nat.reduceSub, Nat.reduceMul, Int.reduceEq, Nat.reduceBEq, hc3, hc6])
      have t91 : T84 1 = vaReturns_ := by rw [ho86.get rfl]; (try simp only [go_sem, ↓reduceIte, Nat.reduceEqDiff, reduceCtorEq, Nat.reduceAdd, Nat.reduceLeDiff, Nat.reduceSub, Nat.reduceMul, Int.reduceEq, Nat.reduceBEq, hc3, hc6])
      have t92 : T84 2 = Value.int .i64 aDays_ := by rw [ho86.get rfl]; (try simp only [go_sem, ↓reduceIte, Nat.reduceEqDiff, reduceCtorEq, Nat.reduceAdd, Nat.reduceLeDiff, Nat.reduceSub, Nat.reduceMul, Int.reduceEq, Nat.reduceBEq, hc3, hc6])
      have t93 : T84 8 = v39 := by rw [ho86.get rfl]; (try simp only [go_sem, ↓reduceIte, Nat.reduceEqDiff, reduceCtorEq, Nat.reduceAdd, Nat.reduceLeDiff, Nat.reduceSub, Nat.reduceMul, Int.reduceEq, Nat.reduceBEq, hc3, hc6])
      have t94 : T84 9 = Value.int .i64 r32 := by rw [ho86.get rfl]; (try simp only [go_sem, ↓reduceIte, Nat.reduceEqDiff, reduceCtorEq, Nat.reduceAdd, Nat.reduceLeDiff, Nat.reduceSub, Nat.reduceMul, Int.reduceEq, Nat.reduceBEq, hc3, hc6])
      have t95 : T84 10 = v50 := by rw [ho86.get rfl]; (try simp only [go_sem, ↓reduceIte, Nat.reduceEqDiff, reduceCtorEq, Nat.reduceAdd, Nat.reduceLeDiff, Nat.reduceSub, Nat.reduceMul, Int.reduceEq, Nat.reduceBEq, hc3, hc6])
      have t96 : T84 11 = v61 := by rw [ho86.get rfl]; (try simp only [go_sem, ↓reduceIte, Nat.reduceEqDiff, reduceCtorEq, Nat.reduceAdd, Nat.reduceLeDiff, Nat.reduceSub, Nat.reduceMul, Int.reduceEq, Nat.reduceBEq, hc3, hc6])
      have t97 : T84 12 = v75 := by rw [ho86.get rfl]; (try simp only [go_sem, ↓reduceIte, Nat.reduceEqDiff, reduceCtorEq, Nat.reduceAdd, Nat.reduceLeDiff, Nat.reduceSub, Nat.reduceMul, Int.reduceEq, Nat.reduceBEq, hc3, hc6])
      have t98 : T84 13 = Value.int .i64 r68 := by rw [ho86.get rfl]; (try simp only [go_sem, ↓reduceIte, Nat.reduceEqDiff, reduceCtorEq, Nat.reduceAdd, Nat.reduceLeDiff, Nat.reduceSub, Nat.reduceMul, Int.reduceEq, Nat.reduceBEq, hc3, hc6])
      (try simp only [go_sem, ↓reduceIte, Nat.reduceEqDiff, reduceCtorEq, Nat.reduceAdd, Nat.reduceLeDiff, Nat.reduceSub, Nat.reduceMul, Int.reduceEq, Nat.reduceBEq, t90, t91, t92, t93, t94, t95, t96, t97, t98, t88, hc3, hc6])
      cases hc99 : ((!r81) || (!decide (r68 = r32))) with
      | true =>
        have h := h.1 hc99
        (try simp only [go_sem, ↓reduceIte, Nat.reduceEqDiff, reduceCtorEq, Nat.reduceAdd, Nat.reduceLeDiff, Nat.reduceSub, Nat.reduceMul, Int.reduceEq, Nat.reduceBEq, t90, t91, t92, t93, t94, t95, t96, t97, t98, t88, hc3, hc6, hc99])
        exact retQ_r1 (by (try simp only [go_sem, ↓reduceIte, Nat.reduceEqDiff, reduceCtorEq, Nat.reduceAdd, Nat.reduceLeDiff, Nat.reduceSub, Nat.reduceMul, Int.reduceEq, Nat.reduceBEq, t90, t91, t92, t93, t94, t95, t96, t97, t98, t88, hc3, hc6, hc99]) <;> rfl) H hL73.sub (hK _ h)
      | false =>
        have h := h.2 hc99
        (try simp only [go_sem, ↓reduceIte, Nat.reduceEqDiff, reduceCtorEq, Nat.reduceAdd, Nat.reduceLeDiff, Nat.reduceSub, Nat.reduceMul, Int.reduceEq, Nat.reduceBEq, t90, t91, t92, t93, t94, t95, t96, t97, t98, t88, hc3, hc6, hc99])
        refine aw_callL (by (try simp only [go_sem, ↓reduceIte, Nat.reduceEqDiff, reduceCtorEq, Nat.reduceAdd, Nat.reduceLeDiff, Nat.reduceSub, Nat.reduceMul, Int.reduceEq, Nat.reduceBEq, t90, t91, t92, t93, t94, t95, t96, t97, t98, t88, hc3, hc6, hc99]) <;> rfl) (by (try simp only [go_sem, ↓reduceIte, Nat.reduceEqDiff, reduceCtorEq, Nat.reduceAdd, Nat.reduceLeDiff, Nat.reduceSub, Nat.reduceMul, Int.reduceEq, Nat.reduceBEq, t90, t91, t92, t93, t94, t95, t96, t97, t98, t88, hc3, hc6, hc99]) <;> rfl) (k_laws_toOrderS h (raOrders_.sub R_Order.ok hL73.sub) fun r100 h H102 kb106 v107 rows108 _ hL104 hr109 hl103 => ?_)
        have hL105 := hL73.call hL104
        have hr109' : Rows R_Order H r100 rows108 := Rows.flat (fun _ _ hx => hx) hr109
        obtain ⟨hle111, h⟩ := h
        (try simp only [go_sem, ↓reduceIte, Nat.reduceEqDiff, reduceCtorEq, Nat.reduceAdd, Nat.reduceLeDiff, Nat.reduceSub, Nat.reduceMul, Int.reduceEq, Nat.reduceBEq, t90, t91, t92, t93, t94, t95, t96, t97, t98, t88, hc3, hc6, hc99])
        refine aw_call (by (try simp only [go_sem, ↓reduceIte, Nat.reduceEqDiff, reduceCtorEq, Nat.reduceAdd, Nat.reduceLeDiff, Nat.reduceSub, Nat.reduceMul, Int.reduceEq, Nat.reduceBEq, t90, t91, t92, t93, t94, t95, t96, t97, t98, t88, hc3, hc6, hc99]) <;> rfl) (by (try simp only [go_sem, ↓reduceIte, Nat.reduceEqDiff, reduceCtorEq, Nat.reduceAdd, Nat.reduceLeDiff, Nat.reduceSub, Nat.reduceMul, Int.reduceEq, Nat.reduceBEq, t90, t91, t92, t93, t94, t95, t96, t97, t98, t88, hc3, hc6, hc99]) <;> rfl) (k_laws_eqOrderS h (hL105.slr R_Order.ok 3 rfl hr52' hle65) (hL105.slr R_Order.ok 0 rfl hr109' hle111) fun r112 h => ?_)
        (try simp only [go_sem, ↓reduceIte, Nat.reduceEqDiff, reduceCtorEq, Nat.reduceAdd, Nat.reduceLeDiff, Nat.reduceSub, Nat.reduceMul, Int.reduceEq, Nat.reduceBEq, t90, t91, t92, t93, t94, t95, t96, t97, t98, t88, hc3, hc6, hc99])
        cases hc114 : (!r112) with
        | true =>
          have h := h.1 hc114
          (try simp only [go_sem, ↓reduceIte, Nat.reduceEqDiff, reduceCtorEq, Nat.reduceAdd, Nat.reduceLeDiff, Nat.reduceSub, Nat.reduceMul, Int.reduceEq, Nat.reduceBEq, t90, t91, t92, t93, t94, t95, t96, t97, t98, t88, hc3, hc6, hc99, hc114])
          exact retQ_r1 (by (try simp only [go_sem, ↓reduceIte, Nat.reduceEqDiff, reduceCtorEq, Nat.reduceAdd, Nat.reduceLeDiff, Nat.reduceSub, Nat.reduceMul, Int.reduceEq, Nat.reduceBEq, t90, t91, t92, t93, t94, t95, t96, t97, t98, t88, hc3, hc6, hc99, hc114]) <;> rfl) H hL105.sub (hK _ h)
        | false =>
          have h := h.2 hc114
          (try simp only [go_sem, ↓reduceIte, Nat.reduceEqDiff, reduceCtorEq, Nat.reduceAdd, Nat.reduceLeDiff, Nat.reduceSub, Nat.reduceMul, Int.reduceEq, Nat.reduceBEq, t90, t91, t92, t93, t94, t95, t96, t97, t98, t88, hc3, hc6, hc99, hc114])
          refine aw_callL (by (try simp only [go_sem, ↓reduceIte, Nat.reduceEqDiff, reduceCtorEq, Nat.reduceAdd, Nat.reduceLeDiff, Nat.reduceSub, Nat.reduceMul, Int.reduceEq, Nat.reduceBEq, t90, t91, t92, t93, t94, t95, t96, t97, t98, t88, hc3, hc6, hc99, hc114]) <;> rfl) (by (try simp only [go_sem, ↓reduceIte, Nat.reduceEqDiff, reduceCtorEq, Nat.reduceAdd, Nat.reduceLeDiff, Nat.reduceSub, Nat.reduceMul, Int.reduceEq, Nat.reduceBEq, t90, t91, t92, t93, t94, t95, t96, t97, t98, t88, hc3, hc6, hc99, hc114]) <;> rfl) (k_laws_toReturnS h (raReturns_.sub R_Return.ok hL105.sub) fun r115 h H117 kb121 v122 rows123 _ hL119 hr124 hl118 => ?_)
          have hL120 := hL105.call hL119
          have hr124' : Rows R_Return H r115 rows123 := Rows.flat (fun _ _ hx => hx) hr124
          obtain ⟨hle126, h⟩ := h
          (try simp only [go_sem, ↓reduceIte, Nat.reduceEqDiff, reduceCtorEq, Nat.reduceAdd, Nat.reduceLeDiff, Nat.reduceSub, Nat.reduceMul, Int.reduceEq, Nat.reduceBEq, t90, t91, t92, t93, t94, t95, t96, t97, t98, t88, hc3, hc6, hc99, hc114])
          refine aw_call (by (try simp only [go_sem, ↓reduceIte, Nat.reduceEqDiff, reduceCtorEq, Nat.reduceAdd, Nat.reduceLeDiff, Nat.reduceSub, Nat.reduceMul, Int.reduceEq, Nat.reduceBEq, t90, t91, t92, t93, t94, t95, t96, t97, t98, t88, hc3, hc6, hc99, hc114]) <;> rfl) (by (try simp only [go_sem, ↓reduceIte, Nat.reduceEqDiff, reduceCtorEq, Nat.reduceAdd, Nat.reduceLeDiff, Nat.reduceSub, Nat.reduceMul, Int.reduceEq, Nat.reduceBEq, t90, t91, t92, t93, t94, t95, t96, t97, t98, t88, hc3, hc6, hc99, hc114]) <;> rfl) (k_laws_eqReturnS h (hL120.slr R_Return.ok 3 rfl hr63' hle66) (hL120.slr R_Return.ok 0 rfl hr124' hle126) fun r127 h => ?_)
          (try simp only [go_sem, ↓reduceIte, Nat.reduceEqDiff, reduceCtorEq, Nat.reduceAdd, Nat.reduceLeDiff, Nat.reduceSub, Nat.reduceMul, Int.reduceEq, Nat.reduceBEq, t90, t91, t92, t93, t94, t95, t96, t97, t98, t88, hc3, hc6, hc99, hc114])
          cases hc129 : (!r127) with
          | true =>
            have h := h.1 hc129
            (try simp only [go_sem, ↓reduceIte, Nat.reduceEqDiff, reduceCtorEq, Nat.reduceAdd, Nat.reduceLeDiff, Nat.reduceSub, Nat.reduceMul, Int.reduceEq, Nat.reduceBEq, t90, t91, t92, t93, t94, t95, t96, t97, t98, t88, hc3, hc6, hc99, hc114, hc129])
            exact retQ_r1 (by (try simp only [go_sem, ↓reduceIte, Nat.reduceEqDiff, reduceCtorEq, Nat.reduceAdd, Nat.reduceLeDiff, Nat.reduceSub, Nat.reduceMul, Int.reduceEq, Nat.reduceBEq, t90, t91, t92, t93, t94, t95, t96, t97, t98, t88, hc3, hc6, hc99, hc114, hc129]) <;> rfl) H hL120.sub (hK _ h)
          | false =>
            have h := h.2 hc129
            (try simp only [go_sem, ↓reduceIte, Nat.reduceEqDiff, reduceCtorEq, Nat.reduceAdd, Nat.reduceLeDiff, Nat.reduceSub, Nat.reduceMul, Int.reduceEq, Nat.reduceBEq, t90, t91, t92, t93, t94, t95, t96, t97, t98, t88, hc3, hc6, hc99, hc114, hc129])
            refine aw_callL (by (try simp only [go_sem, ↓reduceIte, Nat.reduceEqDiff, reduceCtorEq, Nat.reduceAdd, Nat.reduceLeDiff, Nat.reduceSub, Nat.reduceMul, Int.reduceEq, Nat.reduceBEq, t90, t91, t92, t93, t94, t95, t96, t97, t98, t88, hc3, hc6, hc99, hc114, hc129]) <;> rfl) (by (try simp only [go_sem, ↓reduceIte, Nat.reduceEqDiff, reduceCtorEq, Nat.reduceAdd, Nat.reduceLeDiff, Nat.reduceSub, Nat.reduceMul, Int.reduceEq, Nat.reduceBEq, t90, t91, t92, t93, t94, t95, t96, t97, t98, t88, hc3, hc6, hc99, hc114, hc129]) <;> rfl) (k_laws_markOrderS h rfl (hL120.get 4 rfl) (Rows.flat (fun _ _ hx => hx) hr52') fun r130 xs136 h H132  rows137 _ hL134  hr138 hl133 => ?_)
            have hL135 := hL120.back 4 rfl (L' := []) hL134
            have hr138' : Rows R_Order H xs136 rows137 := Rows.flat (fun _ _ hx => hx) hr138
            (try simp only [go_sem, ↓reduceIte, Nat.reduceEqDiff, reduceCtorEq, Nat.reduceAdd, Nat.reduceLeDiff, Nat.reduceSub, Nat.reduceMul, Int.reduceEq, Nat.reduceBEq, t90, t91, t92, t93, t94, t95, t96, t97, t98, t88, hc3, hc6, hc99, hc114, hc129])
            refine aw_callL (by (try simp only [go_sem, ↓reduceIte, Nat.reduceEqDiff, reduceCtorEq, Nat.reduceAdd, Nat.reduceLeDiff, Nat.reduceSub, Nat.reduceMul, Int.reduceEq, Nat.reduceBEq, t90, t91, t92, t93, t94, t95, t96, t97, t98, t88, hc3, hc6, hc99, hc114, hc129]) <;> rfl) (by (try simp only [go_sem, ↓reduceIte, Nat.reduceEqDiff, reduceCtorEq, Nat.reduceAdd, Nat.reduceLeDiff, Nat.reduceSub, Nat.reduceMul, Int.reduceEq, Nat.reduceBEq, t90, t91, t92, t93, t94, t95, t96, t97, t98, t88, hc3, hc6, hc99, hc114, hc129]) <;> rfl) (k_laws_markReturnS h rfl (hL135.get 3 rfl) (Rows.flat (fun _ _ hx => hx) hr63') fun r139 xs145 h H141  rows146 _ hL143  hr147 hl142 => ?_)
            have hL144 := hL135.back 3 rfl (L' := []) hL143
            have hr147' : Rows R_Return H xs145 rows146 := Rows.flat (fun _ _ hx => hx) hr147
            (try simp only [go_sem, ↓reduceIte, Nat.reduceEqDiff, reduceCtorEq, Nat.reduceAdd, Nat.reduceLeDiff, Nat.reduceSub, Nat.reduceMul, Int.reduceEq, Nat.reduceBEq, t90, t91, t92, t93, t94, t95, t96, t97, t98, t88, hc3, hc6, hc99, hc114, hc129])
            obtain ⟨k149, hk153, hk149, h154⟩ := h
            refine aw_cut 5 (fun T' H' => ∃ x150, k149 x150 ∧ T' 81 = Value.bool x150 ∧ H' = H141) hl142 rfl ?_ (fun T155 H156 _ ho157 hj158 => ?_)
            · cases hc148 : (decide (r139 < 0)) with
              | true =>
                simp only [opsK]
                (try simp only [go_sem, ↓reduceIte, Nat.reduceEqDiff, reduceCtorEq, Nat.reduceAdd, Nat.reduceLeDiff, Nat.reduceSub, Nat.reduceMul, Int.reduceEq, Nat.reduceBEq, t90, t91, t92, t93, t94, t95, t96, t97, t98, t88, hc3, hc6, hc99, hc114, hc129, hc148])
                exact ⟨true, h154 hc148, by (try simp only [go_sem, ↓reduceIte, Nat.reduceEqDiff, reduceCtorEq, Nat.reduceAdd, Nat.reduceLeDiff, Nat.reduceSub, Nat.reduceMul, Int.reduceEq, Nat.reduceBEq]), rfl⟩
              | false =>
                simp only [opsK]
                have h := hk149 hc148
                (try simp only [go_sem, ↓reduceIte, Nat.reduceEqDiff, reduceCtorEq, Nat.reduceAdd, Nat.reduceLeDiff, Nat.reduceSub, Nat.reduceMul, Int.reduceEq, Nat.reduceBEq, t90, t91, t92, t93, t94, t95, t96, t97, t98, t88, hc3, hc6, hc99, hc114, hc129, hc148])
                refine aw_call (by (try simp only [go_sem, ↓reduceIte, Nat.reduceEqDiff, reduceCtorEq, Nat.reduceAdd, Nat.reduceLeDiff, Nat.reduceSub, Nat.reduceMul, Int.reduceEq, Nat.reduceBEq, t90, t91, t92, t93, t94, t95, t96, t97, t98, t88, hc3, hc6, hc99, hc114, hc129, hc148]) <;> rfl) (by (try simp only [go_sem, ↓reduceIte, Nat.reduceEqDiff, reduceCtorEq, Nat.reduceAdd, Nat.reduceLeDiff, Nat.reduceSub, Nat.reduceMul, Int.reduceEq, Nat.reduceBEq, t90, t91, t92, t93, t94, t95, t96, t97, t98, t88, hc3, hc6, hc99, hc114, hc129, hc148]) <;> rfl) (k_laws_eqInt64S h (hL144.slr (RI.ok .i64) 2 rfl hr77' hle79) (hL144.slr (RI.ok .i64) 5 rfl hr41' hle80) fun r151 h => ?_)
                (try simp only [go_sem, ↓reduceIte, Nat.reduceEqDiff, reduceCtorEq, Nat.reduceAdd, Nat.reduceLeDiff, Nat.reduceSub, Nat.reduceMul, Int.reduceEq, Nat.reduceBEq, t90, t91, t92, t93, t94, t95, t96, t97, t98, t88, hc3, hc6, hc99, hc114, hc129, hc148])
                exact ⟨(!r151), h, by (try simp only [go_sem, ↓reduceIte, Nat.reduceEqDiff, reduceCtorEq, Nat.reduceAdd, Nat.reduceLeDiff, Nat.reduceSub, Nat.reduceMul, Int.reduceEq, Nat.reduceBEq, t90, t91, t92, t93, t94, t95, t96, t97, t98, t88, hc3, hc6, hc99, hc114, hc129, hc148]), rfl⟩
            obtain ⟨x150, h, t159, hH160⟩ := hj158
            rw [hH160]
            have h := hk153 x150 h
            have t161 : T155 0 = vaOrders_ := by rw [ho157.get rfl]; (try simp only [go_sem, ↓reduceIte, Nat.reduceEqDiff, reduceCtorEq, Nat.reduceAdd, Nat.reduceLeDiff, Nat.reduceSub, Nat.reduceMul, Int.reduceEq, Nat.reduceBEq, t90, t91, t92, t93, t94, t95, t96, t97, t98, t88, hc3, hc6, hc99, hc114, hc129])
            have t162 : T155 1 = vaReturns_ := by rw [ho157.get rfl]; (try simp only [go_sem, ↓reduceIte, Nat.reduceEqDiff, reduceCtorEq, Nat.reduceAdd, Nat.reduceLeDiff, Nat.reduceSub, Nat.reduceMul, Int.reduceEq, Nat.reduceBEq, t90, t91, t92, t93, t94, t95, t96, t97, t98, t88, hc3, hc6, hc99, hc114, hc129])
            have t163 : T155 2 = Value.int .i64 aDays_ := by rw [ho157.get rfl]; (try simp only [go_sem, ↓reduceIte, Nat.reduceEqDiff, reduceCtorEq, Nat.reduceAdd, Nat.reduceLeDiff, Nat.reduceSub, Nat.reduceMul, Int.reduceEq, Nat.reduceBEq, t90, t91, t92, t93, t94, t95, t96, t97, t98, t88, hc3, hc6, hc99, hc114, hc129])
            have t164 : T155 8 = v39 := by rw [ho157.get rfl]; (try simp only [go_sem, ↓reduceIte, Nat.reduceEqDiff, reduceCtorEq, Nat.reduceAdd, Nat.reduceLeDiff, Nat.reduceSub, Nat.reduceMul, Int.reduceEq, Nat.reduceBEq, t90, t91, t92, t93, t94, t95, t96, t97, t98, t88, hc3, hc6, hc99, hc114, hc129])
            have t165 : T155 9 = Value.int .i64 r32 := by rw [ho157.get rfl]; (try simp only [go_sem, ↓reduceIte, Nat.reduceEqDiff, reduceCtorEq, Nat.reduceAdd, Nat.reduceLeDiff, Nat.reduceSub, Nat.reduceMul, Int.reduceEq, Nat.reduceBEq, t90, t91, t92, t93, t94, t95, t96, t97, t98, t88, hc3, hc6, hc99, hc114, hc129])
            have t166 : T155 12 = v75 := by rw [ho157.get rfl]; (try simp only [go_sem, ↓reduceIte, Nat.reduceEqDiff, reduceCtorEq, Nat.reduceAdd, Nat.reduceLeDiff, Nat.reduceSub, Nat.reduceMul, Int.reduceEq, Nat.reduceBEq, t90, t91, t92, t93, t94, t95, t96, t97, t98, t88, hc3, hc6, hc99, hc114, hc129])
            have t167 : T155 13 = Value.int .i64 r68 := by rw [ho157.get rfl]; (try simp only [go_sem, ↓reduceIte, Nat.reduceEqDiff, reduceCtorEq, Nat.reduceAdd, Nat.reduceLeDiff, Nat.reduceSub, Nat.reduceMul, Int.reduceEq, Nat.reduceBEq, t90, t91, t92, t93, t94, t95, t96, t97, t98, t88, hc3, hc6, hc99, hc114, hc129])
            (try simp only [go_sem, ↓reduceIte, Nat.reduceEqDiff, reduceCtorEq, Nat.reduceAdd, Nat.reduceLeDiff, Nat.reduceSub, Nat.reduceMul, Int.reduceEq, Nat.reduceBEq, t161, t162, t163, t164, t165, t166, t167, t159, hc3, hc6, hc99, hc114, hc129])
            refine aw_cut 4 (fun T' H' => T' 86 = Value.bool (x150 || (!decide (r68 = r32))) ∧ H' = H141) hl142 rfl ?_ (fun T169 H170 _ ho171 hj172 => ?_)
            · cases hc168 : x150 with
              | true =>
                simp only [opsK]
                (try simp only [go_sem, ↓reduceIte, Nat.reduceEqDiff, reduceCtorEq, Nat.reduceAdd, Nat.reduceLeDiff, Nat.reduceSub, Nat.reduceMul, Int.reduceEq, Nat.reduceBEq, t161, t162, t163, t164, t165, t166, t167, t159, hc3, hc6, hc99, hc114, hc129, hc168])
                exact ⟨by (try simp only [go_sem, ↓reduceIte, Nat.reduceEqDiff, reduceCtorEq, Nat.reduceAdd, Nat.reduceLeDiff, Nat.reduceSub, Nat.reduceMul, Int.reduceEq, Nat.reduceBEq, Bool.false_and, Bool.true_or, Bool.false_or]), rfl⟩
              | false =>
                simp only [opsK]
                (try simp only [go_sem, ↓reduceIte, Nat.reduceEqDiff, reduceCtorEq, Nat.reduceAdd, Nat.reduceLeDiff, Nat.reduceSub, Nat.reduceMul, Int.reduceEq, Nat.reduceBEq, t161, t162, t163, t164, t165, t166, t167, t159, hc3, hc6, hc99, hc114, hc129, hc168])
                exact ⟨by (try simp only [go_sem, ↓reduceIte, Nat.reduceEqDiff, reduceCtorEq, Nat.reduceAdd, Nat.reduceLeDiff, Nat.reduceSub, Nat.reduceMul, Int.reduceEq, Nat.reduceBEq, t161, t162, t163, t164, t165, t166, t167, t159, hc3, hc6, hc99, hc114, hc129, hc168, Bool.false_and, Bool.true_or, Bool.false_or]), rfl⟩
            obtain ⟨t173, hH174⟩ := hj172
            rw [hH174]
            have t175 : T169 0 = vaOrders_ := by rw [ho171.get rfl]; (try simp only [go_sem, ↓reduceIte, Nat.reduceEqDiff, reduceCtorEq, Nat.reduceAdd, Nat.reduceLeDiff, Nat.reduceSub, Nat.reduceMul, Int.reduceEq, Nat.reduceBEq, t161, t162, t163, t164, t165, t166, t167, t159, hc3, hc6, hc99, hc114, hc129])
            have t176 : T169 1 = vaReturns_ := by rw [ho171.get rfl]; (try simp only [go_sem, ↓reduceIte, Nat.reduceEqDiff, reduceCtorEq, Nat.reduceAdd, Nat.reduceLeDiff, Nat.reduceSub, Nat.reduceMul, Int.reduceEq, Nat.reduceBEq, t161, t162, t163, t164, t165, t166, t167, t159, hc3, hc6, hc99, hc114, hc129])
            have t177 : T169 2 = Value.int .i64 aDays_ := by rw [ho171.get rfl]; (try simp only [go_sem, ↓reduceIte, Nat.reduceEqDiff, reduceCtorEq, Nat.reduceAdd, Nat.reduceLeDiff, Nat.reduceSub, Nat.reduceMul, Int.reduceEq, Nat.reduceBEq, t161, t162, t163, t164, t165, t166, t167, t159, hc3, hc6, hc99, hc114, hc129])
            have t178 : T169 8 = v39 := by rw [ho171.get rfl]; (try simp only [go_sem, ↓reduceIte, Nat.reduceEqDiff, reduceCtorEq, Nat.reduceAdd, Nat.reduceLeDiff, Nat.reduceSub, Nat.reduceMul, Int.reduceEq, Nat.reduceBEq, t161, t162, t163, t164, t165, t166, t167, t159, hc3, hc6, hc99, hc114, hc129])
            have t179 : T169 9 = Value.int .i64 r32 := by rw [ho171.get rfl]; (try simp only [go_sem, ↓reduceIte, Nat.reduceEqDiff, reduceCtorEq, Nat.reduceAdd, Nat.reduceLeDiff, Nat.reduceSub, Nat.reduceMul, Int.reduceEq, Nat.reduceBEq, t161, t162, t163, t164, t165, t166, t167, t159, hc3, hc6, hc99, hc114, hc129])
            have t180 : T169 12 = v75 := by rw [ho171.get rfl]; (try simp only [go_sem, ↓reduceIte, Nat.reduceEqDiff, reduceCtorEq, Nat.reduceAdd, Nat.reduceLeDiff, Nat.reduceSub, Nat.reduceMul, Int.reduceEq, Nat.reduceBEq, t161, t162, t163, t164, t165, t166, t167, t159, hc3, hc6, hc99, hc114, hc129])
            (try simp only [go_sem, ↓reduceIte, Nat.reduceEqDiff, reduceCtorEq, Nat.reduceAdd, Nat.reduceLeDiff, Nat.reduceSub, Nat.reduceMul, Int.reduceEq, Nat.reduceBEq, t175, t176, t177, t178, t179, t180, t173, hc3, hc6, hc99, hc114, hc129])
            cases hc181 : (x150 || (!decide (r68 = r32))) with
            | true =>
              have h := h.1 hc181
              (try simp only [go_sem, ↓reduceIte, Nat.reduceEqDiff, reduceCtorEq, Nat.reduceAdd, Nat.reduceLeDiff, Nat.reduceSub, Nat.reduceMul, Int.reduceEq, Nat.reduceBEq, t175, t176, t177, t178, t179, t180, t173, hc3, hc6, hc99, hc114, hc129, hc181])
              exact retQ_r1 (by (try simp only [go_sem, ↓reduceIte, Nat.reduceEqDiff, reduceCtorEq, Nat.reduceAdd, Nat.reduceLeDiff, Nat.reduceSub, Nat.reduceMul, Int.reduceEq, Nat.reduceBEq, t175, t176, t177, t178, t179, t180, t173, hc3, hc6, hc99, hc114, hc129, hc181]) <;> rfl) H hL144.sub (hK _ h)
            | false =>
              have h := h.2 hc181
              (try simp only [go_sem, ↓reduceIte, Nat.reduceEqDiff, reduceCtorEq, Nat.reduceAdd, Nat.reduceLeDiff, Nat.reduceSub, Nat.reduceMul, Int.reduceEq, Nat.reduceBEq, t175, t176, t177, t178, t179, t180, t173, hc3, hc6, hc99, hc114, hc129, hc181])
              refine aw_callL (by (try simp only [go_sem, ↓reduceIte, Nat.reduceEqDiff, reduceCtorEq, Nat.reduceAdd, Nat.reduceLeDiff, Nat.reduceSub, Nat.reduceMul, Int.reduceEq, Nat.reduceBEq, t175, t176, t177, t178, t179, t180, t173, hc3, hc6, hc99, hc114, hc129, hc181]) <;> rfl) (by (try simp only [go_sem, ↓reduceIte, Nat.reduceEqDiff, reduceCtorEq, Nat.reduceAdd, Nat.reduceLeDiff, Nat.reduceSub, Nat.reduceMul, Int.reduceEq, Nat.reduceBEq, t175, t176, t177, t178, t179, t180, t173, hc3, hc6, hc99, hc114, hc129, hc181]) <;> rfl) (k_laws_markInt64S h rfl (hL144.get 2 rfl) (Rows.flat (fun _ _ hx => hx) hr77') fun r182 xs188 h H184  rows189 _ hL186  hr190 hl185 => ?_)
              have hL187 := hL144.back 2 rfl (L' := []) hL186
              have hr190' : Rows (RI .i64) H xs188 rows189 := Rows.flat (fun _ _ hx => hx) hr190
              obtain ⟨hle191, h⟩ := h
              (try simp only [go_sem, ↓reduceIte, Nat.reduceEqDiff, reduceCtorEq, Nat.reduceAdd, Nat.reduceLeDiff, Nat.reduceSub, Nat.reduceMul, Int.reduceEq, Nat.reduceBEq, t175, t176, t177, t178, t179, t180, t173, hc3, hc6, hc99, hc114, hc129, hc181])
              refine aw_call (by (try simp only [go_sem, ↓reduceIte, Nat.reduceEqDiff, reduceCtorEq, Nat.reduceAdd, Nat.reduceLeDiff, Nat.reduceSub, Nat.reduceMul, Int.reduceEq, Nat.reduceBEq, t175, t176, t177, t178, t179, t180, t173, hc3, hc6, hc99, hc114, hc129, hc181]) <;> rfl) (by (try simp only [go_sem, ↓reduceIte, Nat.reduceEqDiff, reduceCtorEq, Nat.reduceAdd, Nat.reduceLeDiff, Nat.reduceSub, Nat.reduceMul, Int.reduceEq, Nat.reduceBEq, t175, t176, t177, t178, t179, t180, t173, hc3, hc6, hc99, hc114, hc129, hc181]) <;> rfl) (k_laws_heldInt64S h (hL187.slr (RI.ok .i64) 2 rfl hr190' hle191) fun r192 h => ?_)
              (try simp only [go_sem, ↓reduceIte, Nat.reduceEqDiff, reduceCtorEq, Nat.reduceAdd, Nat.reduceLeDiff, Nat.reduceSub, Nat.reduceMul, Int.reduceEq, Nat.reduceBEq, t175, t176, t177, t178, t179, t180, t173, hc3, hc6, hc99, hc114, hc129, hc181])
              cases hc194 : (decide (r192 < 0)) with
              | true =>
                have h := h.1 hc194
                (try simp only [go_sem, ↓reduceIte, Nat.reduceEqDiff, reduceCtorEq, Nat.reduceAdd, Nat.reduceLeDiff, Nat.reduceSub, Nat.reduceMul, Int.reduceEq, Nat.reduceBEq, t175, t176, t177, t178, t179, t180, t173, hc3, hc6, hc99, hc114, hc129, hc181, hc194])
                exact retQ_r1 (by (try simp only [go_sem, ↓reduceIte, Nat.reduceEqDiff, reduceCtorEq, Nat.reduceAdd, Nat.reduceLeDiff, Nat.reduceSub, Nat.reduceMul, Int.reduceEq, Nat.reduceBEq, t175, t176, t177, t178, t179, t180, t173, hc3, hc6, hc99, hc114, hc129, hc181, hc194]) <;> rfl) H hL187.sub (hK _ h)
              | false =>
                have h := h.2 hc194
                (try simp only [go_sem, ↓reduceIte, Nat.reduceEqDiff, reduceCtorEq, Nat.reduceAdd, Nat.reduceLeDiff, Nat.reduceSub, Nat.reduceMul, Int.reduceEq, Nat.reduceBEq, t175, t176, t177, t178, t179, t180, t173, hc3, hc6, hc99, hc114, hc129, hc181, hc194])
                cases hc195 : (!decide (r192 = r182)) with
                | true =>
                  have h := h.1 hc195
                  (try simp only [go_sem, ↓reduceIte, Nat.reduceEqDiff, reduceCtorEq, Nat.reduceAdd, Nat.reduceLeDiff, Nat.reduceSub, Nat.reduceMul, Int.reduceEq, Nat.reduceBEq, t175, t176, t177, t178, t179, t180, t173, hc3, hc6, hc99, hc114, hc129, hc181, hc194, hc195])
                  exact retQ_r1 (by (try simp only [go_sem, ↓reduceIte, Nat.reduceEqDiff, reduceCtorEq, Nat.reduceAdd, Nat.reduceLeDiff, Nat.reduceSub, Nat.reduceMul, Int.reduceEq, Nat.reduceBEq, t175, t176, t177, t178, t179, t180, t173, hc3, hc6, hc99, hc114, hc129, hc181, hc194, hc195]) <;> rfl) H hL187.sub (hK _ h)
                | false =>
                  have h := h.2 hc195
                  (try simp only [go_sem, ↓reduceIte, Nat.reduceEqDiff, reduceCtorEq, Nat.reduceAdd, Nat.reduceLeDiff, Nat.reduceSub, Nat.reduceMul, Int.reduceEq, Nat.reduceBEq, t175, t176, t177, t178, t179, t180, t173, hc3, hc6, hc99, hc114, hc129, hc181, hc194, hc195])
                  refine aw_callL (by (try simp only [go_sem, ↓reduceIte, Nat.reduceEqDiff, reduceCtorEq, Nat.reduceAdd, Nat.reduceLeDiff, Nat.reduceSub, Nat.reduceMul, Int.reduceEq, Nat.reduceBEq, t175, t176, t177, t178, t179, t180, t173, hc3, hc6, hc99, hc114, hc129, hc181, hc194, hc195]) <;> rfl) (by (try simp only [go_sem, ↓reduceIte, Nat.reduceEqDiff, reduceCtorEq, Nat.reduceAdd, Nat.reduceLeDiff, Nat.reduceSub, Nat.reduceMul, Int.reduceEq, Nat.reduceBEq, t175, t176, t177, t178, t179, t180, t173, hc3, hc6, hc99, hc114, hc129, hc181, hc194, hc195]) <;> rfl) (k_laws_toOrderS h (raOrders_.sub R_Order.ok hL187.sub) fun r196 h H198 kb202 v203 rows204 _ hL200 hr205 hl199 => ?_)
                  have hL201 := hL187.call hL200
                  have hr205' : Rows R_Order H r196 rows204 := Rows.flat (fun _ _ hx => hx) hr205
                  (try simp only [go_sem, ↓reduceIte, Nat.reduceEqDiff, reduceCtorEq, Nat.reduceAdd, Nat.reduceLeDiff, Nat.reduceSub, Nat.reduceMul, Int.reduceEq, Nat.reduceBEq, t175, t176, t177, t178, t179, t180, t173, hc3, hc6, hc99, hc114, hc129, hc181, hc194, hc195])
                  refine aw_callL (by (try simp only [go_sem, ↓reduceIte, Nat.reduceEqDiff, reduceCtorEq, Nat.reduceAdd, Nat.reduceLeDiff, Nat.reduceSub, Nat.reduceMul, Int.reduceEq, Nat.reduceBEq, t175, t176, t177, t178, t179, t180, t173, hc3, hc6, hc99, hc114, hc129, hc181, hc194, hc195]) <;> rfl) (by (try simp only [go_sem, ↓reduceIte, Nat.reduceEqDiff, reduceCtorEq, Nat.reduceAdd, Nat.reduceLeDiff, Nat.reduceSub, Nat.reduceMul, Int.reduceEq, Nat.reduceBEq, t175, t176, t177, t178, t179, t180, t173, hc3, hc6, hc99, hc114, hc129, hc181, hc194, hc195]) <;> rfl) (k_laws_toReturnS h (raReturns_.sub R_Return.ok hL201.sub) fun r207 h H209 kb213 v214 rows215 _ hL211 hr216 hl210 => ?_)
                  have hL212 := hL201.call hL211
                  have hr216' : Rows R_Return H r207 rows215 := Rows.flat (fun _ _ hx => hx) hr216
                  obtain ⟨hle218, h⟩ := h
                  obtain ⟨hle219, h⟩ := h
                  (try simp only [go_sem, ↓reduceIte, Nat.reduceEqDiff, reduceCtorEq, Nat.reduceAdd, Nat.reduceLeDiff, Nat.reduceSub, Nat.reduceMul, Int.reduceEq, Nat.reduceBEq, t175, t176, t177, t178, t179, t180, t173, hc3, hc6, hc99, hc114, hc129, hc181, hc194, hc195])
                  refine aw_callL (by (try simp only [go_sem, ↓reduceIte, Nat.reduceEqDiff, reduceCtorEq, Nat.reduceAdd, Nat.reduceLeDiff, Nat.reduceSub, Nat.reduceMul, Int.reduceEq, Nat.reduceBEq, t175, t176, t177, t178, t179, t180, t173, hc3, hc6, hc99, hc114, hc129, hc181, hc194, hc195]) <;> rfl) (by (try simp only [go_sem, ↓reduceIte, Nat.reduceEqDiff, reduceCtorEq, Nat.reduceAdd, Nat.reduceLeDiff, Nat.reduceSub, Nat.reduceMul, Int.reduceEq, Nat.reduceBEq, t175, t176, t177, t178, t179, t180, t173, hc3, hc6, hc99, hc114, hc129, hc181, hc194, hc195]) <;> rfl) (k_impl_LeftOver h (hL212.slr R_Order.ok 1 rfl hr205' hle218) (hL212.slr R_Return.ok 0 rfl hr216' hle219) fun r220 r221 h H223 kb227 v228 rows229 _ hL225 hr230 hl224 => ?_)
                  have hL226 := hL212.call hL225
                  have hr230' : Rows (RI .i64) H r220 rows229 := Rows.flat (fun _ _ hx => hx) hr230
                  obtain ⟨hle232, h⟩ := h
                  (try simp only [go_sem, ↓reduceIte, Nat.reduceEqDiff, reduceCtorEq, Nat.reduceAdd, Nat.reduceLeDiff, Nat.reduceSub, Nat.reduceMul, Int.reduceEq, Nat.reduceBEq, t175, t176, t177, t178, t179, t180, t173, hc3, hc6, hc99, hc114, hc129, hc181, hc194, hc195])
                  refine aw_call (by (try simp only [go_sem, ↓reduceIte, Nat.reduceEqDiff, reduceCtorEq, Nat.reduceAdd, Nat.reduceLeDiff, Nat.reduceSub, Nat.reduceMul, Int.reduceEq, Nat.reduceBEq, t175, t176, t177, t178, t179, t180, t173, hc3, hc6, hc99, hc114, hc129, hc181, hc194, hc195]) <;> rfl) (by (try simp only [go_sem, ↓reduceIte, Nat.reduceEqDiff, reduceCtorEq, Nat.reduceAdd, Nat.reduceLeDiff, Nat.reduceSub, Nat.reduceMul, Int.reduceEq, Nat.reduceBEq, t175, t176, t177, t178, t179, t180, t173, hc3, hc6, hc99, hc114, hc129, hc181, hc194, hc195]) <;> rfl) (k_laws_eqInt64S h (hL226.slr (RI.ok .i64) 0 rfl hr230' hle232) (hL226.slr (RI.ok .i64) 8 rfl hr41' hle80) fun r233 h => ?_)
                  (try simp only [go_sem, ↓reduceIte, Nat.reduceEqDiff, reduceCtorEq, Nat.reduceAdd, Nat.reduceLeDiff, Nat.reduceSub, Nat.reduceMul, Int.reduceEq, Nat.reduceBEq, t175, t176, t177, t178, t179, t180, t173, hc3, hc6, hc99, hc114, hc129, hc181, hc194, hc195])
                  refine aw_cut 4 (fun T' H' => T' 115 = Value.bool ((!r233) || (!decide (r221 = r32))) ∧ H' = H223) hl224 rfl ?_ (fun T236 H237 _ ho238 hj239 => ?_)
                  · cases hc235 : (!r233) with
                    | true =>
                      simp only [opsK]
                      (try simp only [go_sem, ↓reduceIte, Nat.reduceEqDiff, reduceCtorEq, Nat.reduceAdd, Nat.reduceLeDiff, Nat.reduceSub, Nat.reduceMul, Int.reduceEq, Nat.reduceBEq, t175, t176, t177, t178, t179, t180, t173, hc3, hc6, hc99, hc114, hc129, hc181, hc194, hc195, hc235])
                      exact ⟨by (try simp only [go_sem, ↓reduceIte, Nat.reduceEqDiff, reduceCtorEq, Nat.reduceAdd, Nat.reduceLeDiff, Nat.reduceSub, Nat.reduceMul, Int.reduceEq, Nat.reduceBEq, Bool.false_and, Bool.true_or, Bool.false_or]), rfl⟩
                    | false =>
                      simp only [opsK]
                      (try simp only [go_sem, ↓reduceIte, Nat.reduceEqDiff, reduceCtorEq, Nat.reduceAdd, Nat.reduceLeDiff, Nat.reduceSub, Nat.reduceMul, Int.reduceEq, Nat.reduceBEq, t175, t176, t177, t178, t179, t180, t173, hc3, hc6, hc99, hc114, hc129, hc181, hc194, hc195, hc235])
                      exact ⟨by (try simp only [go_sem, ↓reduceIte, Nat.reduceEqDiff, reduceCtorEq, Nat.reduceAdd, Nat.reduceLeDiff, Nat.reduceSub, Nat.reduceMul, Int.reduceEq, Nat.reduceBEq, t175, t176, t177, t178, t179, t180, t173, hc3, hc6, hc99, hc114, hc129, hc181, hc194, hc195, hc235, Bool.false_and, Bool.true_or, Bool.false_or]), rfl⟩
                  obtain ⟨t240, hH241⟩ := hj239
                  rw [hH241]
                  have t242 : T236 12 = v75 := by rw [ho238.get rfl]; (try simp only [go_sem, ↓reduceIte, Nat.reduceEqDiff, reduceCtorEq, Nat.reduceAdd, Nat.reduceLeDiff, Nat.reduceSub, Nat.reduceMul, Int.reduceEq, Nat.reduceBEq, t175, t176, t177, t178, t179, t180, t173, hc3, hc6, hc99, hc114, hc129, hc181, hc194, hc195])
                  have t243 : T236 15 = Value.int .i64 r182 := by rw [ho238.get rfl]; (try simp only [go_sem, ↓reduceIte, Nat.reduceEqDiff, reduceCtorEq, Nat.reduceAdd, Nat.reduceLeDiff, Nat.reduceSub, Nat.reduceMul, Int.reduceEq, Nat.reduceBEq, t175, t176, t177, t178, t179, t180, t173, hc3, hc6, hc99, hc114, hc129, hc181, hc194, hc195])
                  (try simp only [go_sem, ↓reduceIte, Nat.reduceEqDiff, reduceCtorEq, Nat.reduceAdd, Nat.reduceLeDiff, Nat.reduceSub, Nat.reduceMul, Int.reduceEq, Nat.reduceBEq, t242, t243, t240, hc3, hc6, hc99, hc114, hc129, hc181, hc194, hc195])
                  cases hc244 : ((!r233) || (!decide (r221 = r32))) with
                  | true =>
                    have h := h.1 hc244
                    (try simp only [go_sem, ↓reduceIte, Nat.reduceEqDiff, reduceCtorEq, Nat.reduceAdd, Nat.reduceLeDiff, Nat.reduceSub, Nat.reduceMul, Int.reduceEq, Nat.reduceBEq, t242, t243, t240, hc3, hc6, hc99, hc114, hc129, hc181, hc194, hc195, hc244])
                    exact retQ_r1 (by (try simp only [go_sem, ↓reduceIte, Nat.reduceEqDiff, reduceCtorEq, Nat.reduceAdd, Nat.reduceLeDiff, Nat.reduceSub, Nat.reduceMul, Int.reduceEq, Nat.reduceBEq, t242, t243, t240, hc3, hc6, hc99, hc114, hc129, hc181, hc194, hc195, hc244]) <;> rfl) H hL226.sub (hK _ h)
                  | false =>
                    have h := h.2 hc244
                    (try simp only [go_sem, ↓reduceIte, Nat.reduceEqDiff, reduceCtorEq, Nat.reduceAdd, Nat.reduceLeDiff, Nat.reduceSub, Nat.reduceMul, Int.reduceEq, Nat.reduceBEq, t242, t243, t240, hc3, hc6, hc99, hc114, hc129, hc181, hc194, hc195, hc244])
                    refine aw_call (by (try simp only [go_sem, ↓reduceIte, Nat.reduceEqDiff, reduceCtorEq, Nat.reduceAdd, Nat.reduceLeDiff, Nat.reduceSub, Nat.reduceMul, Int.reduceEq, Nat.reduceBEq, t242, t243, t240, hc3, hc6, hc99, hc114, hc129, hc181, hc194, hc195, hc244]) <;> rfl) (by (try simp only [go_sem, ↓reduceIte, Nat.reduceEqDiff, reduceCtorEq, Nat.reduceAdd, Nat.reduceLeDiff, Nat.reduceSub, Nat.reduceMul, Int.reduceEq, Nat.reduceBEq, t242, t243, t240, hc3, hc6, hc99, hc114, hc129, hc181, hc194, hc195, hc244]) <;> rfl) (k_laws_heldInt64S h (hL226.slr (RI.ok .i64) 5 rfl hr190' hle191) fun r245 h => ?_)
                    (try simp only [go_sem, ↓reduceIte, Nat.reduceEqDiff, reduceCtorEq, Nat.reduceAdd, Nat.reduceLeDiff, Nat.reduceSub, Nat.reduceMul, Int.reduceEq, Nat.reduceBEq, t242, t243, t240, hc3, hc6, hc99, hc114, hc129, hc181, hc194, hc195, hc244])
                    cases hc247 : (decide (r245 < 0)) with
                    | true =>
                      have h := h.1 hc247
                      (try simp only [go_sem, ↓reduceIte, Nat.reduceEqDiff, reduceCtorEq, Nat.reduceAdd, Nat.reduceLeDiff, Nat.reduceSub, Nat.reduceMul, Int.reduceEq, Nat.reduceBEq, t242, t243, t240, hc3, hc6, hc99, hc114, hc129, hc181, hc194, hc195, hc244, hc247])
                      exact retQ_r1 (by (try simp only [go_sem, ↓reduceIte, Nat.reduceEqDiff, reduceCtorEq, Nat.reduceAdd, Nat.reduceLeDiff, Nat.reduceSub, Nat.reduceMul, Int.reduceEq, Nat.reduceBEq, t242, t243, t240, hc3, hc6, hc99, hc114, hc129, hc181, hc194, hc195, hc244, hc247]) <;> rfl) H hL226.sub (hK _ h)
                    | false =>
                      have h := h.2 hc247
                      (try simp only [go_sem, ↓reduceIte, Nat.reduceEqDiff, reduceCtorEq, Nat.reduceAdd, Nat.reduceLeDiff, Nat.reduceSub, Nat.reduceMul, Int.reduceEq, Nat.reduceBEq, t242, t243, t240, hc3, hc6, hc99, hc114, hc129, hc181, hc194, hc195, hc244, hc247])
                      cases hc248 : (!decide (r245 = r182)) with
                      | true =>
                        have h := h.1 hc248
                        (try simp only [go_sem, ↓reduceIte, Nat.reduceEqDiff, reduceCtorEq, Nat.reduceAdd, Nat.reduceLeDiff, Nat.reduceSub, Nat.reduceMul, Int.reduceEq, Nat.reduceBEq, t242, t243, t240, hc3, hc6, hc99, hc114, hc129, hc181, hc194, hc195, hc244, hc247, hc248])
                        exact retQ_r1 (by (try simp only [go_sem, ↓reduceIte, Nat.reduceEqDiff, reduceCtorEq, Nat.reduceAdd, Nat.reduceLeDiff, Nat.reduceSub, Nat.reduceMul, Int.reduceEq, Nat.reduceBEq, t242, t243, t240, hc3, hc6, hc99, hc114, hc129, hc181, hc194, hc195, hc244, hc247, hc248]) <;> rfl) H hL226.sub (hK _ h)
                      | false =>
                        have h := h.2 hc248
                        (try simp only [go_sem, ↓reduceIte, Nat.reduceEqDiff, reduceCtorEq, Nat.reduceAdd, Nat.reduceLeDiff, Nat.reduceSub, Nat.reduceMul, Int.reduceEq, Nat.reduceBEq, t242, t243, t240, hc3, hc6, hc99, hc114, hc129, hc181, hc194, hc195, hc244, hc247, hc248])
                        exact retQ_r1 (by (try simp only [go_sem, ↓reduceIte, Nat.reduceEqDiff, reduceCtorEq, Nat.reduceAdd, Nat.reduceLeDiff, Nat.reduceSub, Nat.reduceMul, Int.reduceEq, Nat.reduceBEq, t242, t243, t240, hc3, hc6, hc99, hc114, hc129, hc181, hc194, hc195, hc244, hc247, hc248]) <;> rfl) H hL226.sub (hK _ h)
def w_spec_MatchReturns (orders_ : (List S_Order)) (returns_ : (List S_Return)) (days_ : Int) (Q : (List S_Match) → Int → Prop) : Prop := orders_.length ≤ 1152921504606846976 → returns_.length ≤ 1152921504606846976 → (w_spec_l06Days days_ fun r1 => (w_spec_l06Asked orders_ returns_ r1 fun r3 => (((!decide (r3 = 0)) = true → Q ([] : List S_Match) r3) ∧ ((!decide (r3 = 0)) = false → (w_spec_l06Matches orders_ returns_ days_ fun r13 => Q r13 0)))))
theorem k_spec_MatchReturns {orders_ : (List S_Order)} {returns_ : (List S_Return)} {days_ : Int} {Q : (List S_Match) → Int → Prop} (h : w_spec_MatchReturns orders_ returns_ days_ Q) {H : Hp} {vorders_ : Value} (rorders_ : SlR R_Order 5 H orders_ vorders_) {vreturns_ : Value} (rreturns_ : SlR R_Return 4 H returns_ vreturns_) {K : Value → Hp → Prop} (hK : ∀ (r0 : (List S_Match)) (r1 : Int), Q r0 r1 → ∀ (H' : Hp) (kb0 : Option Nat) (v0 : Value) (rows0 : List (List Value)), Live H' → Loc H H' [.own kb0 131 3 v0 rows0] → Rows R_Match H r0 rows0 → K (.tuple #[v0, Value.int .i64 r1]) H') :
    ACalls Go.Proofs.Try.prog n_spec_MatchReturns #[vorders_, vreturns_, Value.int .i64 days_] H K := by
  unfold w_spec_MatchReturns at h
  have h := h rorders_.le
  have h := h rreturns_.le
  refine acalls_go fn_spec_MatchReturns rfl fun hl => ?_
  simp only [c_spec_MatchReturns]
  have hL := Loc.nil H
  (try simp only [go_sem, ↓reduceIte, Nat.reduceEqDiff, reduceCtorEq, Nat.reduceAdd, Nat.reduceLeDiff, Nat.reduceSub, Nat.reduceMul, Int.reduceEq, Nat.reduceBEq])
  refine aw_call (by (try simp only [go_sem, ↓reduceIte, Nat.reduceEqDiff, reduceCtorEq, Nat.reduceAdd, Nat.reduceLeDiff, Nat.reduceSub, Nat.reduceMul, Int.reduceEq, Nat.reduceBEq]) <;> rfl) (by (try simp only [go_sem, ↓reduceIte, Nat.reduceEqDiff, reduceCtorEq, Nat.reduceAdd, Nat.reduceLeDiff, Nat.reduceSub, Nat.reduceMul, Int.reduceEq, Nat.reduceBEq]) <;> rfl) (k_spec_l06Days h fun r1 h => ?_)
  (try simp only [go_sem, ↓reduceIte, Nat.reduceEqDiff, reduceCtorEq, Nat.reduceAdd, Nat.reduceLeDiff, Nat.reduceSub, Nat.reduceMul, Int.reduceEq, Nat.reduceBEq])
  refine aw_call (by (try simp only [go_sem, ↓reduceIte, Nat.reduceEqDiff, reduceCtorEq, Nat.reduceAdd, Nat.reduceLeDiff, Nat.reduceSub, Nat.reduceMul, Int.reduceEq, Nat.reduceBEq]) <;> rfl) (by (try simp only [go_sem, ↓reduceIte, Nat.reduceEqDiff, reduceCtorEq, Nat.reduceAdd, Nat.reduceLeDiff, Nat.reduceSub, Nat.reduceMul, Int.reduceEq, Nat.reduceBEq]) <;> rfl) (k_spec_l06Asked h (rorders_.sub R_Order.ok hL.sub) (rreturns_.sub R_Return.ok hL.sub) fun r3 h => ?_)
  (try simp only [go_sem, ↓reduceIte, Nat.reduceEqDiff, reduceCtorEq, Nat.reduceAdd, Nat.reduceLeDiff, Nat.reduceSub, Nat.reduceMul, Int.reduceEq, Nat.reduceBEq])
  cases hc5 : (!decide (r3 = 0)) with
  | true =>
    have h := h.1 hc5
    (try simp only [go_sem, ↓reduceIte, Nat.reduceEqDiff, reduceCtorEq, Nat.reduceAdd, Nat.reduceLeDiff, Nat.reduceSub, Nat.reduceMul, Int.reduceEq, Nat.reduceBEq, hc5])
    refine awL_bsl0 3 hl hL fun b9 v10 H6 hl7 hL8 => ?_
    have hr11 : Rows R_Match H ([] : List S_Match) [] := Rows.nil R_Match H
    (try simp only [go_sem, ↓reduceIte, Nat.reduceEqDiff, reduceCtorEq, Nat.reduceAdd, Nat.reduceLeDiff, Nat.reduceSub, Nat.reduceMul, Int.reduceEq, Nat.reduceBEq, hc5])
    exact retQ_r2 (by (try simp only [go_sem, ↓reduceIte, Nat.reduceEqDiff, reduceCtorEq, Nat.reduceAdd, Nat.reduceLeDiff, Nat.reduceSub, Nat.reduceMul, Int.reduceEq, Nat.reduceBEq, hc5]) <;> rfl) (by (try simp only [go_sem, ↓reduceIte, Nat.reduceEqDiff, reduceCtorEq, Nat.reduceAdd, Nat.reduceLeDiff, Nat.reduceSub, Nat.reduceMul, Int.reduceEq, Nat.reduceBEq, hc5]) <;> rfl) H6 (Hp.sub.refl _) (hK _ _ h H6 (some b9) v10 [] hl7 (hL8.sel [0] (by decide)) hr11)
  | false =>
    have h := h.2 hc5
    (try simp only [go_sem, ↓reduceIte, Nat.reduceEqDiff, reduceCtorEq, Nat.reduceAdd, Nat.reduceLeDiff, Nat.reduceSub, Nat.reduceMul, Int.reduceEq, Nat.reduceBEq, hc5])
    refine aw_callL (by (try simp only [go_sem, ↓reduceIte, Nat.reduceEqDiff, reduceCtorEq, Nat.reduceAdd, Nat.reduceLeDiff, Nat.reduceSub, Nat.reduceMul, Int.reduceEq, Nat.reduceBEq, hc5]) <;> rfl) (by (try simp only [go_sem, ↓reduceIte, Nat.reduceEqDiff, reduceCtorEq, Nat.reduceAdd, Nat.reduceLeDiff, Nat.reduceSub, Nat.reduceMul, Int.reduceEq, Nat.reduceBEq, hc5]) <;> rfl) (k_spec_l06Matches h (rorders_.sub R_Order.ok hL.sub) (rreturns_.sub R_Return.ok hL.sub) fun r13 h H15 kb19 v20 rows21 _ hL17 hr22 hl16 => ?_)
    have hL18 := hL.call hL17
    have hr22' : Rows R_Match H r13 rows21 := Rows.flat (fun _ _ hx => hx) hr22
    (try simp only [go_sem, ↓reduceIte, Nat.reduceEqDiff, reduceCtorEq, Nat.reduceAdd, Nat.reduceLeDiff, Nat.reduceSub, Nat.reduceMul, Int.reduceEq, Nat.reduceBEq, hc5])
    exact retQ_r2 (by (try simp only [go_sem, ↓reduceIte, Nat.reduceEqDiff, reduceCtorEq, Nat.reduceAdd, Nat.reduceLeDiff, Nat.reduceSub, Nat.reduceMul, Int.reduceEq, Nat.reduceBEq, hc5]) <;> rfl) (by (try simp only [go_sem, ↓reduceIte, Nat.reduceEqDiff, reduceCtorEq, Nat.reduceAdd, Nat.reduceLeDiff, Nat.reduceSub, Nat.reduceMul, Int.reduceEq, Nat.reduceBEq, hc5]) <;> rfl) H15 (Hp.sub.refl _) (hK _ _ h H15 kb19 v20 rows21 hl16 (hL18.sel [0] (by decide)) hr22')
def w_impl_MatchReturns (orders_ : (List S_Order)) (returns_ : (List S_Return)) (days_ : Int) (Q : (List S_Match) → Int → Prop) : Prop := orders_.length ≤ 1152921504606846976 → returns_.length ≤ 1152921504606846976 → (w_impl_daysCode orders_ returns_ days_ fun r1 => (((!decide (r1 = 0)) = true → Q ([]) r1) ∧ ((!decide (r1 = 0)) = false → (w_impl_matches orders_ returns_ days_ fun r7 r8 => Q r7 0))))
theorem k_impl_MatchReturns {orders_ : (List S_Order)} {returns_ : (List S_Return)} {days_ : Int} {Q : (List S_Match) → Int → Prop} (h : w_impl_MatchReturns orders_ returns_ days_ Q) {H : Hp} {vorders_ : Value} (rorders_ : SlR R_Order 5 H orders_ vorders_) {vreturns_ : Value} (rreturns_ : SlR R_Return 4 H returns_ vreturns_) {K : Value → Hp → Prop} (hK : ∀ (r0 : (List S_Match)) (r1 : Int), Q r0 r1 → ∀ (H' : Hp) (kb0 : Option Nat) (v0 : Value) (rows0 : List (List Value)), Live H' → Loc H H' [.own kb0 131 3 v0 rows0] → Rows R_Match H r0 rows0 → K (.tuple #[v0, Value.int .i64 r1]) H') :
    ACalls Go.Proofs.Try.prog n_impl_MatchReturns #[vorders_, vreturns_, Value.int .i64 days_] H K := by
  unfold w_impl_MatchReturns at h
  have h := h rorders_.le
  have h := h rreturns_.le
  refine acalls_go fn_impl_MatchReturns rfl fun hl => ?_
  simp only [c_impl_MatchReturns]
  have hL := Loc.nil H
  (try simp only [go_sem, ↓reduceIte, Nat.reduceEqDiff, reduceCtorEq, Nat.reduceAdd, Nat.reduceLeDiff, Nat.reduceSub, Nat.reduceMul, Int.reduceEq, Nat.reduceBEq])
  refine aw_call (by (try simp only [go_sem, ↓reduceIte, Nat.reduceEqDiff, reduceCtorEq, Nat.reduceAdd, Nat.reduceLeDiff, Nat.reduceSub, Nat.reduceMul, Int.reduceEq, Nat.reduceBEq]) <;> rfl) (by (try simp only [go_sem, ↓reduceIte, Nat.reduceEqDiff, reduceCtorEq, Nat.reduceAdd, Nat.reduceLeDiff, Nat.reduceSub, Nat.reduceMul, Int.reduceEq, Nat.reduceBEq]) <;> rfl) (k_impl_daysCode h (rorders_.sub R_Order.ok hL.sub) (rreturns_.sub R_Return.ok hL.sub) fun r1 h => ?_)
  (try simp only [go_sem, ↓reduceIte, Nat.reduceEqDiff, reduceCtorEq, Nat.reduceAdd, Nat.reduceLeDiff, Nat.reduceSub, Nat.reduceMul, Int.reduceEq, Nat.reduceBEq])
  cases hc3 : (!decide (r1 = 0)) with
  | true =>
    have h := h.1 hc3
    (try simp only [go_sem, ↓reduceIte, Nat.reduceEqDiff, reduceCtorEq, Nat.reduceAdd, Nat.reduceLeDiff, Nat.reduceSub, Nat.reduceMul, Int.reduceEq, Nat.reduceBEq, hc3])
    have hL4 := hL.nils 131 3
    have hr5 := Rows.nil R_Match H
    exact retQ_r2 (by (try simp only [go_sem, ↓reduceIte, Nat.reduceEqDiff, reduceCtorEq, Nat.reduceAdd, Nat.reduceLeDiff, Nat.reduceSub, Nat.reduceMul, Int.reduceEq, Nat.reduceBEq, hc3]) <;> rfl) (by (try simp only [go_sem, ↓reduceIte, Nat.reduceEqDiff, reduceCtorEq, Nat.reduceAdd, Nat.reduceLeDiff, Nat.reduceSub, Nat.reduceMul, Int.reduceEq, Nat.reduceBEq, hc3]) <;> rfl) H (Hp.sub.refl _) (hK _ _ h H none (.slice none 0 0) [] hl (hL4.sel [0] (by decide)) hr5)
  | false =>
    have h := h.2 hc3
    (try simp only [go_sem, ↓reduceIte, Nat.reduceEqDiff, reduceCtorEq, Nat.reduceAdd, Nat.reduceLeDiff, Nat.reduceSub, Nat.reduceMul, Int.reduceEq, Nat.reduceBEq, hc3])
    refine aw_callL (by (try simp only [go_sem, ↓reduceIte, Nat.reduceEqDiff, reduceCtorEq, Nat.reduceAdd, Nat.reduceLeDiff, Nat.reduceSub, Nat.reduceMul, Int.reduceEq, Nat.reduceBEq, hc3]) <;> rfl) (by (try simp only [go_sem, ↓reduceIte, Nat.reduceEqDiff, reduceCtorEq, Nat.reduceAdd, Nat.reduceLeDiff, Nat.reduceSub, Nat.reduceMul, Int.reduceEq, Nat.reduceBEq, hc3]) <;> rfl) (k_impl_matches h (rorders_.sub R_Order.ok hL.sub) (rreturns_.sub R_Return.ok hL.sub) fun r7 r8 h H10 kb14 v15 rows16 kb19 v20 rows21 _ hL12 hr17 hr22 hl11 => ?_)
    have hL13 := hL.call hL12
    have hr17' : Rows R_Match H r7 rows16 := Rows.flat (fun _ _ hx => hx) hr17
    have hr22' : Rows (RI .i64) H r8 rows21 := Rows.flat (fun _ _ hx => hx) hr22
    (try simp only [go_sem, ↓reduceIte, Nat.reduceEqDiff, reduceCtorEq, Nat.reduceAdd, Nat.reduceLeDiff, Nat.reduceSub, Nat.reduceMul, Int.reduceEq, Nat.reduceBEq, hc3])
    exact retQ_r2 (by (try simp only [go_sem, ↓reduceIte, Nat.reduceEqDiff, reduceCtorEq, Nat.reduceAdd, Nat.reduceLeDiff, Nat.reduceSub, Nat.reduceMul, Int.reduceEq, Nat.reduceBEq, hc3]) <;> rfl) (by (try simp only [go_sem, ↓reduceIte, Nat.reduceEqDiff, reduceCtorEq, Nat.reduceAdd, Nat.reduceLeDiff, Nat.reduceSub, Nat.reduceMul, Int.reduceEq, Nat.reduceBEq, hc3]) <;> rfl) H10 (Hp.sub.refl _) (hK _ _ h H10 kb14 v15 rows16 hl11 (hL13.sel [0] (by decide)) hr17')
end Go.Proofs.Ytonmmfjagkgifaa
