/- Printed by gen.py, a program of this work: GW2 -/
import Derived.Test.YtonmmfjagkgifaaGT
import Derived.Test.YtonmmfjagkgifaaCodeF
import Derived.Test.YtonmmfjagkgifaaGW
set_option linter.unusedVariables false
set_option linter.unusedSimpArgs false
namespace Go.Proofs.Ytonmmfjagkgifaa
open Go.RowKit
attribute [local go_sem] aw_mv aw_mkf aw_pick aw_bin aw_eqB aw_eqNil aw_eqAgg aw_un aw_conv aw_fa aw_ia aw_iaArr aw_ixArr aw_ixStr aw_fld aw_ext aw_bld aw_nilc aw_slc aw_slcArr aw_slcStr aw_len aw_cap aw_mnx aw_ld aw_st aw_guard_y aw_guard_n aw_nil aw_exit aw_ret aw_cond_t aw_cond_f aw_blk seqQ_norm seqQ_exit seqQ_ret blkQ_norm blkQ_exit_same blkQ_exit_ne blkQ_ret vPick_b vEqB_t vEqB_f vEqNil_sn vEqNil_ss vEqNil_pn vEqNil_ps vUn_neg vUn_not vUn_xor vConv_i vFa_p vIa_s vFld_a vExt_t vNilc_p vLen_s vLen_t vMnx_t vMnx_f abin_add abin_sub abin_mul abin_eql abin_neq abin_lss abin_leq abin_gtr abin_geq abin_and abin_or abin_xor abin_quo abin_rem abin_shl abin_shr abin_seq abin_sne abin_scat ev_tmp ev_const ev_func put_get puto_some puto_none args0_get List.getD_cons_succ List.getD_cons_zero Option.isSome_some Option.getD_some Option.isNone_none Option.isNone_some Option.map_some Option.map_none Value.bool.injEq Value.int.injEq add_mk aload_ptr rd_mk rdObj_row set_get astore_ptr apart_f apart_t List.length_cons List.length_nil List.drop_succ_cons List.drop_zero List.take_succ_cons List.take_zero List.map_cons List.map_nil Option.bind_some Option.bind_none ares_nil ares_tmp oneOf1 Nat.zero_add Nat.add_zero Bool.not_true Bool.not_false ne_eq not_false_eq_true not_true_eq_false decide_true decide_false Bool.true_and Bool.and_true Bool.false_eq_true and_self and_true true_and List.getElem?_cons_zero List.getElem?_cons_succ vc_agg vc_int vc_bool vc_slice aw_chk1 aw_chk2 st_agg st_int st_slice st_ptr one_int one_bool one_slice one_ptr one_str splice_eq aparts_nil aparts_cons afill_nil afill_cons rz0 rz1 rz2 List.all_cons List.all_nil Bool.and_self List.nil_append List.cons_append List.append_nil set_set lpQ_exit lpQ_ret vBld_def aw_guard_u abin_shr1 abin_shl1 st_bool st_str vc_str vc_ptr joinQ_exit joinQ_ret rngQ_cont rngQ_brk rngQ_out rngQ_ret
def w_slices_insertionSortCmpFunc_int64 (data_ : (List Int)) (a_ : Int) (b_ : Int) (cmp_ : (Int → Int → (Int → Prop) → Prop)) (Q : (List Int) → Prop) : Prop := (∃ I645 : Nat → Int → (List Int) → Prop, (∃ m, I645 m (IntKind.i64.wrap (a_ + 1)) data_) ∧ (∀ (m654 : Nat) (x639 : Int) (xs640 : List Int), I645 m654 x639 xs640 → (((decide (x639 < b_)) = true → (∃ I865 : Nat → Int → (List Int) → Prop, (∃ m, I865 m x639 xs640) ∧ (∀ (m874 : Nat) (x859 : Int) (xs860 : List Int), I865 m874 x859 xs860 → (∃ k883 : Bool → Prop, (∀ x884, k883 x884 → ((x884 = true → (In (IntKind.i64.wrap (x859 - 1)) xs860.length ∧ (In x859 xs860.length ∧ (∀ xs941, xs941 = (xs860.set (x859).toNat (gt xs860 (IntKind.i64.wrap (x859 - 1)))) → (In (IntKind.i64.wrap (x859 - 1)) xs941.length ∧ (∀ xs957, xs957 = (xs941.set ((IntKind.i64.wrap (x859 - 1))).toNat (gt xs860 x859)) → (∃ m875, m875 < m874 ∧ I865 m875 (IntKind.i64.wrap (x859 - 1)) xs957))))))) ∧ (x884 = false → (∃ m655, m655 < m654 ∧ I645 m655 (IntKind.i64.wrap (x639 + 1)) xs860)))) ∧ ((decide (x859 > a_)) = true → (In x859 xs860.length ∧ (In (IntKind.i64.wrap (x859 - 1)) xs860.length ∧ (cmp_ (gt xs860 x859) (gt xs860 (IntKind.i64.wrap (x859 - 1))) fun r903 => k883 (decide (r903 < 0)))))) ∧ ((decide (x859 > a_)) = false → k883 false))))) ∧ ((decide (x639 < b_)) = false → Q xs640))))
theorem k_slices_insertionSortCmpFunc_int64 {data_ : (List Int)} {a_ : Int} {b_ : Int} {cmp_ : (Int → Int → (Int → Prop) → Prop)} {Q : (List Int) → Prop} (h : w_slices_insertionSortCmpFunc_int64 data_ a_ b_ cmp_ Q) {H H0 : Hp} {kbdata_ : Option Nat} {tydata_ : TypeId} {vdata_ : Value} {rowsdata_ : List (List Value)} (hH : H = H0.minus kbdata_) (hodata_ : E.ok H0 (.own kbdata_ tydata_ 1 vdata_ rowsdata_)) (rdata_ : Rows (RI .i64) H data_ rowsdata_) {gcmp_ : FuncId} {cpcmp_ : List Value} (hccmp_ : ∀ y0 y1 Q', cmp_ y0 y1 Q' → ∀ H1, H.sub H1 → ∀ K : Value → Hp → Prop, (∀ r, Q' r → K (Value.int .i64 r) H1) → ACalls Go.Proofs.Try.prog gcmp_ ([Value.int .i64 y0, Value.int .i64 y1] ++ cpcmp_).toArray H1 K) {K : Value → Hp → Prop} (hK : ∀ (x' : (List Int)), Q x' → ∀ (H' : Hp) (rows' : List (List Value)), Live H' → Loc H H' ([] ++ [.own kbdata_ tydata_ 1 vdata_ rows']) → Rows (RI .i64) H x' rows' → K (oneOf []) H') :
    ACalls Go.Proofs.Try.prog n_slices_insertionSortCmpFunc_int64 #[vdata_, Value.int .i64 a_, Value.int .i64 b_, .func (.func gcmp_) #[] cpcmp_.toArray] H0 K := by
  unfold w_slices_insertionSortCmpFunc_int64 at h
  refine acalls_go fn_slices_insertionSortCmpFunc_int64 rfl fun hl => ?_
  simp only [c_slices_insertionSortCmpFunc_int64]
  have hL := Loc.one hH hodata_
  (try simp only [go_sem, ↓reduceIte, Nat.reduceEqDiff, reduceCtorEq, Nat.reduceAdd, Nat.reduceLeDiff, Nat.reduceSub, Nat.reduceMul, Int.reduceEq, Nat.reduceBEq])
  obtain ⟨I645, ⟨m0, h0⟩, hSI645⟩ := h
  refine aw_loopM hl (fun m654 T' H' => ∃ x639 xs640 rows643, I645 m654 x639 xs640 ∧ T' 8 = Value.int .i64 x639 ∧ Loc H H' [.own kbdata_ tydata_ 1 vdata_ rows643] ∧ Rows (RI .i64) H xs640 rows643) m0 H0 (Hp.sub.refl _) ⟨(IntKind.i64.wrap (a_ + 1)), data_, rowsdata_, h0, (by (try simp only [go_sem, ↓reduceIte, Nat.reduceEqDiff, reduceCtorEq, Nat.reduceAdd, Nat.reduceLeDiff, Nat.reduceSub, Nat.reduceMul, Int.reduceEq, Nat.reduceBEq]) <;> rfl), hL, rdata_⟩ ?_
  rintro m654 T648 H647 hl649 ho650 ⟨x639, xs640, rows643, hI652, t653, hL651, hr644⟩
  have t657 : T648 0 = vdata_ := by rw [ho650.get rfl]; (try simp only [go_sem, ↓reduceIte, Nat.reduceEqDiff, reduceCtorEq, Nat.reduceAdd, Nat.reduceLeDiff, Nat.reduceSub, Nat.reduceMul, Int.reduceEq, Nat.reduceBEq])
  have t658 : T648 1 = Value.int .i64 a_ := by rw [ho650.get rfl]; (try simp only [go_sem, ↓reduceIte, Nat.reduceEqDiff, reduceCtorEq, Nat.reduceAdd, Nat.reduceLeDiff, Nat.reduceSub, Nat.reduceMul, Int.reduceEq, Nat.reduceBEq])
  have t659 : T648 2 = Value.int .i64 b_ := by rw [ho650.get rfl]; (try simp only [go_sem, ↓reduceIte, Nat.reduceEqDiff, reduceCtorEq, Nat.reduceAdd, Nat.reduceLeDiff, Nat.reduceSub, Nat.reduceMul, Int.reduceEq, Nat.reduceBEq])
  have t660 : T648 3 = Value.func (.func gcmp_) #[] cpcmp_.toArray := by rw [ho650.get rfl]; (try simp only [go_sem, ↓reduceIte, Nat.reduceEqDiff, reduceCtorEq, Nat.reduceAdd, Nat.reduceLeDiff, Nat.reduceSub, Nat.reduceMul, Int.reduceEq, Nat.reduceBEq])
  have h := hSI645 m654 x639 xs640 hI652
  (try simp only [go_sem, ↓reduceIte, Nat.reduceEqDiff, reduceCtorEq, Nat.reduceAdd, Nat.reduceLeDiff, Nat.reduceSub, Nat.reduceMul, Int.reduceEq, Nat.reduceBEq, t653, t657, t658, t659, t660])
  cases hc661 : (decide (x639 < b_)) with
  | true =>
    have h := h.1 hc661
    (try simp only [go_sem, ↓reduceIte, Nat.reduceEqDiff, reduceCtorEq, Nat.reduceAdd, Nat.reduceLeDiff, Nat.reduceSub, Nat.reduceMul, Int.reduceEq, Nat.reduceBEq, t653, t657, t658, t659, t660, hc661])
    obtain ⟨I865, ⟨m0, h0⟩, hSI865⟩ := h
    refine aw_loopM hl649 (fun m874 T' H' => ∃ x859 xs860 rows863, I865 m874 x859 xs860 ∧ T' 9 = Value.int .i64 x859 ∧ Loc H H' [.own kbdata_ tydata_ 1 vdata_ rows863] ∧ Rows (RI .i64) H xs860 rows863) m0 H647 (Hp.sub.refl _) ⟨x639, xs640, rows643, h0, (by (try simp only [go_sem, ↓reduceIte, Nat.reduceEqDiff, reduceCtorEq, Nat.reduceAdd, Nat.reduceLeDiff, Nat.reduceSub, Nat.reduceMul, Int.reduceEq, Nat.reduceBEq, t653, t657, t658, t659, t660, hc661]) <;> rfl), hL651, hr644⟩ ?_
    rintro m874 T868 H867 hl869 ho870 ⟨x859, xs860, rows863, hI872, t873, hL871, hr864⟩
    have t877 : T868 0 = vdata_ := by rw [ho870.get rfl]; (try simp only [go_sem, ↓reduceIte, Nat.reduceEqDiff, reduceCtorEq, Nat.reduceAdd, Nat.reduceLeDiff, Nat.reduceSub, Nat.reduceMul, Int.reduceEq, Nat.reduceBEq, t653, t657, t658, t659, t660, hc661])
    have t878 : T868 1 = Value.int .i64 a_ := by rw [ho870.get rfl]; (try simp only [go_sem, ↓reduceIte, Nat.reduceEqDiff, reduceCtorEq, Nat.reduceAdd, Nat.reduceLeDiff, Nat.reduceSub, Nat.reduceMul, Int.reduceEq, Nat.reduceBEq, t653, t657, t658, t659, t660, hc661])
    have t879 : T868 2 = Value.int .i64 b_ := by rw [ho870.get rfl]; (try simp only [go_sem, ↓reduceIte, Nat.reduceEqDiff, reduceCtorEq, Nat.reduceAdd, Nat.reduceLeDiff, Nat.reduceSub, Nat.reduceMul, Int.reduceEq, Nat.reduceBEq, t653, t657, t658, t659, t660, hc661])
    have t880 : T868 3 = Value.func (.func gcmp_) #[] cpcmp_.toArray := by rw [ho870.get rfl]; (try simp only [go_sem, ↓reduceIte, Nat.reduceEqDiff, reduceCtorEq, Nat.reduceAdd, Nat.reduceLeDiff, Nat.reduceSub, Nat.reduceMul, Int.reduceEq, Nat.reduceBEq, t653, t657, t658, t659, t660, hc661])
    have t881 : T868 8 = Value.int .i64 x639 := by rw [ho870.get rfl]; (try simp only [go_sem, ↓reduceIte, Nat.reduceEqDiff, reduceCtorEq, Nat.reduceAdd, Nat.reduceLeDiff, Nat.reduceSub, Nat.reduceMul, Int.reduceEq, Nat.reduceBEq, t653, t657, t658, t659, t660, hc661])
    have h := hSI865 m874 x859 xs860 hI872
    (try simp only [go_sem, ↓reduceIte, Nat.reduceEqDiff, reduceCtorEq, Nat.reduceAdd, Nat.reduceLeDiff, Nat.reduceSub, Nat.reduceMul, Int.reduceEq, Nat.reduceBEq, t873, t877, t878, t879, t880, t881, hc661])
    obtain ⟨k883, hk904, hk883, h905⟩ := h
    refine aw_cut 13 (fun T' H' => ∃ x884, k883 x884 ∧ T' 34 = Value.bool x884 ∧ H' = H867) hl869 rfl ?_ (fun T906 H907 _ ho908 hj909 => ?_)
    · cases hc882 : (decide (x859 > a_)) with
      | true =>
        simp only [opsK]
        have h := hk883 hc882
        obtain ⟨hi885, h⟩ := h
        obtain ⟨b886, c887, hkb891, hia888, hrd889, hg892, hlt893, hR890⟩ := hL871.atR 0 rfl hr864 (k := .i64) hi885
        obtain rfl : c887 = [Value.int .i64 (gt xs860 x859)] := hR890
        obtain ⟨hi894, h⟩ := h
        obtain ⟨b895, c896, hkb900, hia897, hrd898, hg901, hlt902, hR899⟩ := hL871.atR 0 rfl hr864 (k := .i64) hi894
        obtain rfl : c896 = [Value.int .i64 (gt xs860 (IntKind.i64.wrap (x859 - 1)))] := hR899
        (try simp only [go_sem, ↓reduceIte, Nat.reduceEqDiff, reduceCtorEq, Nat.reduceAdd, Nat.reduceLeDiff, Nat.reduceSub, Nat.reduceMul, Int.reduceEq, Nat.reduceBEq, t873, t877, t878, t879, t880, t881, hc661, hc882, hia888, hia897, hrd889, hrd898])
        refine aw_callc (first := []) (cap := cpcmp_) (by (try simp only [go_sem, ↓reduceIte, Nat.reduceEqDiff, reduceCtorEq, Nat.reduceAdd, Nat.reduceLeDiff, Nat.reduceSub, Nat.reduceMul, Int.reduceEq, Nat.reduceBEq, t873, t877, t878, t879, t880, t881, hc661, hc882, hia888, hia897, hrd889, hrd898]) <;> rfl) (by (try simp only [go_sem, ↓reduceIte, Nat.reduceEqDiff, reduceCtorEq, Nat.reduceAdd, Nat.reduceLeDiff, Nat.reduceSub, Nat.reduceMul, Int.reduceEq, Nat.reduceBEq, t873, t877, t878, t879, t880, t881, hc661, hc882, hia888, hia897, hrd889, hrd898]) <;> rfl) (hccmp_ _ _ _ h _ hL871.sub _ fun r903 h => ?_)
        (try simp only [go_sem, ↓reduceIte, Nat.reduceEqDiff, reduceCtorEq, Nat.reduceAdd, Nat.reduceLeDiff, Nat.reduceSub, Nat.reduceMul, Int.reduceEq, Nat.reduceBEq, t873, t877, t878, t879, t880, t881, hc661, hc882, hia888, hia897, hrd889, hrd898])
        exact ⟨(decide (r903 < 0)), h, by (try simp only [go_sem, ↓reduceIte, Nat.reduceEqDiff, reduceCtorEq, Nat.reduceAdd, Nat.reduceLeDiff, Nat.reduceSub, Nat.reduceMul, Int.reduceEq, Nat.reduceBEq, t873, t877, t878, t879, t880, t881, hc661, hc882, hia888, hia897, hrd889, hrd898]), rfl⟩
      | false =>
        simp only [opsK]
        (try simp only [go_sem, ↓reduceIte, Nat.reduceEqDiff, reduceCtorEq, Nat.reduceAdd, Nat.reduceLeDiff, Nat.reduceSub, Nat.reduceMul, Int.reduceEq, Nat.reduceBEq, t873, t877, t878, t879, t880, t881, hc661, hc882])
        exact ⟨false, h905 hc882, by (try simp only [go_sem, ↓reduceIte, Nat.reduceEqDiff, reduceCtorEq, Nat.reduceAdd, Nat.reduceLeDiff, Nat.reduceSub, Nat.reduceMul, Int.reduceEq, Nat.reduceBEq]), rfl⟩
    obtain ⟨x884, h, t910, hH911⟩ := hj909
    rw [hH911]
    have h := hk904 x884 h
    have t912 : T906 0 = vdata_ := by rw [ho908.get rfl]; (try simp only [go_sem, ↓reduceIte, Nat.reduceEqDiff, reduceCtorEq, Nat.reduceAdd, Nat.reduceLeDiff, Nat.reduceSub, Nat.reduceMul, Int.reduceEq, Nat.reduceBEq, t873, t877, t878, t879, t880, t881, hc661])
    have t913 : T906 1 = Value.int .i64 a_ := by rw [ho908.get rfl]; (try simp only [go_sem, ↓reduceIte, Nat.reduceEqDiff, reduceCtorEq, Nat.reduceAdd, Nat.reduceLeDiff, Nat.reduceSub, Nat.reduceMul, Int.reduceEq, Nat.reduceBEq, t873, t877, t878, t879, t880, t881, hc661])
    have t914 : T906 2 = Value.int .i64 b_ := by rw [ho908.get rfl]; (try simp only [go_sem, ↓reduceIte, Nat.reduceEqDiff, reduceCtorEq, Nat.reduceAdd, Nat.reduceLeDiff, Nat.reduceSub, Nat.reduceMul, Int.reduceEq, Nat.reduceBEq, t873, t877, t878, t879, t880, t881, hc661])
    have t915 : T906 3 = Value.func (.func gcmp_) #[] cpcmp_.toArray := by rw [ho908.get rfl]; (try simp only [go_sem, ↓reduceIte, Nat.reduceEqDiff, reduceCtorEq, Nat.reduceAdd, Nat.reduceLeDiff, Nat.reduceSub, Nat.reduceMul, Int.reduceEq, Nat.reduceBEq, t873, t877, t878, t879, t880, t881, hc661])
    have t916 : T906 8 = Value.int .i64 x639 := by rw [ho908.get rfl]; (try simp only [go_sem, ↓reduceIte, Nat.reduceEqDiff, reduceCtorEq, Nat.reduceAdd, Nat.reduceLeDiff, Nat.reduceSub, Nat.reduceMul, Int.reduceEq, Nat.reduceBEq, t873, t877, t878, t879, t880, t881, hc661])
    have t917 : T906 9 = Value.int .i64 x859 := by rw [ho908.get rfl]; (try simp only [go_sem, ↓reduceIte, Nat.reduceEqDiff, reduceCtorEq, Nat.reduceAdd, Nat.reduceLeDiff, Nat.reduceSub, Nat.reduceMul, Int.reduceEq, Nat.reduceBEq, t873, t877, t878, t879, t880, t881, hc661])
    (try simp only [go_sem, ↓reduceIte, Nat.reduceEqDiff, reduceCtorEq, Nat.reduceAdd, Nat.reduceLeDiff, Nat.reduceSub, Nat.reduceMul, Int.reduceEq, Nat.reduceBEq, t912, t913, t914, t915, t916, t917, t910, hc661])
    cases hc918 : x884 with
    | true =>
      have h := h.1 hc918
      obtain ⟨hi919, h⟩ := h
      obtain ⟨b920, c921, hkb925, hia922, hrd923, hg926, hlt927, hR924⟩ := hL871.atR 0 rfl hr864 (k := .i64) hi919
      obtain rfl : c921 = [Value.int .i64 (gt xs860 (IntKind.i64.wrap (x859 - 1)))] := hR924
      obtain ⟨hi928, h⟩ := h
      obtain ⟨b929, c930, hkb934, hia931, hrd932, hg935, hlt936, hR933⟩ := hL871.atR 0 rfl hr864 (k := .i64) hi928
      obtain rfl : c930 = [Value.int .i64 (gt xs860 x859)] := hR933
      (try simp only [go_sem, ↓reduceIte, Nat.reduceEqDiff, reduceCtorEq, Nat.reduceAdd, Nat.reduceLeDiff, Nat.reduceSub, Nat.reduceMul, Int.reduceEq, Nat.reduceBEq, t912, t913, t914, t915, t916, t917, t910, hc661, hc918, hia922, hia931, hrd923, hrd932])
      refine awL_wrR (sub := 0) (r' := [Value.int .i64 (gt xs860 (IntKind.i64.wrap (x859 - 1)))]) 0 hl869 hL871 rfl hkb934 hlt936 hg935 (by (try simp only [go_sem, ↓reduceIte, Nat.reduceEqDiff, reduceCtorEq, Nat.reduceAdd, Nat.reduceLeDiff, Nat.reduceSub, Nat.reduceMul, Int.reduceEq, Nat.reduceBEq, t912, t913, t914, t915, t916, t917, t910, hc661, hc918, hia922, hia931, hrd923, hrd932]) <;> rfl) rfl (by (try simp only [go_sem, ↓reduceIte, Nat.reduceEqDiff, reduceCtorEq, Nat.reduceAdd, Nat.reduceLeDiff, Nat.reduceSub, Nat.reduceMul, Int.reduceEq, Nat.reduceBEq, t912, t913, t914, t915, t916, t917, t910, hc661, hc918, hia922, hia931, hrd923, hrd932]) <;> rfl) (by (try simp only [go_sem, ↓reduceIte, Nat.reduceEqDiff, reduceCtorEq, Nat.reduceAdd, Nat.reduceLeDiff, Nat.reduceSub, Nat.reduceMul, Int.reduceEq, Nat.reduceBEq, t912, t913, t914, t915, t916, t917, t910, hc661, hc918, hia922, hia931, hrd923, hrd932]) <;> rfl) fun H937 hl938 hL939 => ?_
      have hr940 := hr864.set (x859).toNat (show (RI .i64) H (gt xs860 (IntKind.i64.wrap (x859 - 1))) [Value.int .i64 (gt xs860 (IntKind.i64.wrap (x859 - 1)))] from rfl)
      obtain ⟨xs941, hxs942⟩ : ∃ ys, ys = (xs860.set (x859).toNat (gt xs860 (IntKind.i64.wrap (x859 - 1)))) := ⟨_, rfl⟩
      rw [← hxs942] at hr940
      have h := h xs941 hxs942
      generalize (rows863.set (x859).toNat [Value.int .i64 (gt xs860 (IntKind.i64.wrap (x859 - 1)))]) = rows943 at hL939 hr940
      obtain ⟨hi944, h⟩ := h
      obtain ⟨b945, c946, hkb950, hia947, hrd948, hg951, hlt952, hR949⟩ := hL939.atR 0 rfl hr940 (k := .i64) hi944
      obtain rfl : c946 = [Value.int .i64 (gt xs941 (IntKind.i64.wrap (x859 - 1)))] := hR949
      (try simp only [go_sem, ↓reduceIte, Nat.reduceEqDiff, reduceCtorEq, Nat.reduceAdd, Nat.reduceLeDiff, Nat.reduceSub, Nat.reduceMul, Int.reduceEq, Nat.reduceBEq, t912, t913, t914, t915, t916, t917, t910, hc661, hc918, hia931, hia947, hrd948])
      refine awL_wrR (sub := 0) (r' := [Value.int .i64 (gt xs860 x859)]) 0 hl938 hL939 rfl hkb950 hlt952 hg951 (by (try simp only [go_sem, ↓reduceIte, Nat.reduceEqDiff, reduceCtorEq, Nat.reduceAdd, Nat.reduceLeDiff, Nat.reduceSub, Nat.reduceMul, Int.reduceEq, Nat.reduceBEq, t912, t913, t914, t915, t916, t917, t910, hc661, hc918, hia931, hia947, hrd948]) <;> rfl) rfl (by (try simp only [go_sem, ↓reduceIte, Nat.reduceEqDiff, reduceCtorEq, Nat.reduceAdd, Nat.reduceLeDiff, Nat.reduceSub, Nat.reduceMul, Int.reduceEq, Nat.reduceBEq, t912, t913, t914, t915, t916, t917, t910, hc661, hc918, hia931, hia947, hrd948]) <;> rfl) (by (try simp only [go_sem, ↓reduceIte, Nat.reduceEqDiff, reduceCtorEq, Nat.reduceAdd, Nat.reduceLeDiff, Nat.reduceSub, Nat.reduceMul, Int.reduceEq, Nat.reduceBEq, t912, t913, t914, t915, t916, t917, t910, hc661, hc918, hia931, hia947, hrd948]) <;> rfl) fun H953 hl954 hL955 => ?_
      have hr956 := hr940.set ((IntKind.i64.wrap (x859 - 1))).toNat (show (RI .i64) H (gt xs860 x859) [Value.int .i64 (gt xs860 x859)] from rfl)
      obtain ⟨xs957, hxs958⟩ : ∃ ys, ys = (xs941.set ((IntKind.i64.wrap (x859 - 1))).toNat (gt xs860 x859)) := ⟨_, rfl⟩
      rw [← hxs958] at hr956
      have h := h xs957 hxs958
      generalize (rows943.set ((IntKind.i64.wrap (x859 - 1))).toNat [Value.int .i64 (gt xs860 x859)]) = rows959 at hL955 hr956
      obtain ⟨m875, hm876, h⟩ := h
      (try simp only [go_sem, ↓reduceIte, Nat.reduceEqDiff, reduceCtorEq, Nat.reduceAdd, Nat.reduceLeDiff, Nat.reduceSub, Nat.reduceMul, Int.reduceEq, Nat.reduceBEq, t912, t913, t914, t915, t916, t917, t910, hc661, hc918, hia931, hia947])
      exact ⟨m875, H953, hm876, Hp.sub.refl _, (IntKind.i64.wrap (x859 - 1)), xs957, rows959, h, (by (try simp only [go_sem, ↓reduceIte, Nat.reduceEqDiff, reduceCtorEq, Nat.reduceAdd, Nat.reduceLeDiff, Nat.reduceSub, Nat.reduceMul, Int.reduceEq, Nat.reduceBEq, t912, t913, t914, t915, t916, t917, t910, hc661, hc918, hia931, hia947]) <;> rfl), hL955, hr956⟩
    | false =>
      have h := h.2 hc918
      obtain ⟨m655, hm656, h⟩ := h
      (try simp only [go_sem, ↓reduceIte, Nat.reduceEqDiff, reduceCtorEq, Nat.reduceAdd, Nat.reduceLeDiff, Nat.reduceSub, Nat.reduceMul, Int.reduceEq, Nat.reduceBEq, t912, t913, t914, t915, t916, t917, t910, hc661, hc918])
      exact ⟨m655, H867, hm656, Hp.sub.refl _, (IntKind.i64.wrap (x639 + 1)), xs860, rows863, h, (by (try simp only [go_sem, ↓reduceIte, Nat.reduceEqDiff, reduceCtorEq, Nat.reduceAdd, Nat.reduceLeDiff, Nat.reduceSub, Nat.reduceMul, Int.reduceEq, Nat.reduceBEq, t912, t913, t914, t915, t916, t917, t910, hc661, hc918]) <;> rfl), hL871, hr864⟩
  | false =>
    have h := h.2 hc661
    (try simp only [go_sem, ↓reduceIte, Nat.reduceEqDiff, reduceCtorEq, Nat.reduceAdd, Nat.reduceLeDiff, Nat.reduceSub, Nat.reduceMul, Int.reduceEq, Nat.reduceBEq, t653, t657, t658, t659, t660, hc661])
    first | exact retQ_n0 H647 (Hp.sub.refl _) (hK _ h H647 rows643 hl649 (hL651.sel [0] (by decide)) hr644) | exact retQ_r0 H647 (Hp.sub.refl _) (hK _ h H647 rows643 hl649 (hL651.sel [0] (by decide)) hr644)
def w_slices_swapRangeCmpFunc_int64 (data_ : (List Int)) (a_ : Int) (b_ : Int) (n_ : Int) (cmp_ : (Int → Int → (Int → Prop) → Prop)) (Q : (List Int) → Prop) : Prop := (∃ I131 : Nat → Int → (List Int) → Prop, (∃ m, I131 m 0 data_) ∧ (∀ (m140 : Nat) (x125 : Int) (xs126 : List Int), I131 m140 x125 xs126 → (((decide (x125 < n_)) = true → (In (IntKind.i64.wrap (b_ + x125)) xs126.length ∧ (In (IntKind.i64.wrap (a_ + x125)) xs126.length ∧ (∀ xs170, xs170 = (xs126.set ((IntKind.i64.wrap (a_ + x125))).toNat (gt xs126 (IntKind.i64.wrap (b_ + x125)))) → (In (IntKind.i64.wrap (b_ + x125)) xs170.length ∧ (∀ xs186, xs186 = (xs170.set ((IntKind.i64.wrap (b_ + x125))).toNat (gt xs126 (IntKind.i64.wrap (a_ + x125)))) → (∃ m141, m141 < m140 ∧ I131 m141 (IntKind.i64.wrap (x125 + 1)) xs186))))))) ∧ ((decide (x125 < n_)) = false → Q xs126))))
theorem k_slices_swapRangeCmpFunc_int64 {data_ : (List Int)} {a_ : Int} {b_ : Int} {n_ : Int} {cmp_ : (Int → Int → (Int → Prop) → Prop)} {Q : (List Int) → Prop} (h : w_slices_swapRangeCmpFunc_int64 data_ a_ b_ n_ cmp_ Q) {H H0 : Hp} {kbdata_ : Option Nat} {tydata_ : TypeId} {vdata_ : Value} {rowsdata_ : List (List Value)} (hH : H = H0.minus kbdata_) (hodata_ : E.ok H0 (.own kbdata_ tydata_ 1 vdata_ rowsdata_)) (rdata_ : Rows (RI .i64) H data_ rowsdata_) {gcmp_ : FuncId} {cpcmp_ : List Value} (hccmp_ : ∀ y0 y1 Q', cmp_ y0 y1 Q' → ∀ H1, H.sub H1 → ∀ K : Value → Hp → Prop, (∀ r, Q' r → K (Value.int .i64 r) H1) → ACalls Go.Proofs.Try.prog gcmp_ ([Value.int .i64 y0, Value.int .i64 y1] ++ cpcmp_).toArray H1 K) {K : Value → Hp → Prop} (hK : ∀ (x' : (List Int)), Q x' → ∀ (H' : Hp) (rows' : List (List Value)), Live H' → Loc H H' ([] ++ [.own kbdata_ tydata_ 1 vdata_ rows']) → Rows (RI .i64) H x' rows' → K (oneOf []) H') :
    ACalls Go.Proofs.Try.prog n_slices_swapRangeCmpFunc_int64 #[vdata_, Value.int .i64 a_, Value.int .i64 b_, Value.int .i64 n_, .func (.func gcmp_) #[] cpcmp_.toArray] H0 K := by
  unfold w_slices_swapRangeCmpFunc_int64 at h
  refine acalls_go fn_slices_swapRangeCmpFunc_int64 rfl fun hl => ?_
  simp only [c_slices_swapRangeCmpFunc_int64]
  have hL := Loc.one hH hodata_
  (try simp only [go_sem, ↓reduceIte, Nat.reduceEqDiff, reduceCtorEq, Nat.reduceAdd, Nat.reduceLeDiff, Nat.reduceSub, Nat.reduceMul, Int.reduceEq, Nat.reduceBEq])
  obtain ⟨I131, ⟨m0, h0⟩, hSI131⟩ := h
  refine aw_loopM hl (fun m140 T' H' => ∃ x125 xs126 rows129, I131 m140 x125 xs126 ∧ T' 10 = Value.int .i64 x125 ∧ Loc H H' [.own kbdata_ tydata_ 1 vdata_ rows129] ∧ Rows (RI .i64) H xs126 rows129) m0 H0 (Hp.sub.refl _) ⟨0, data_, rowsdata_, h0, (by (try simp only [go_sem, ↓reduceIte, Nat.reduceEqDiff, reduceCtorEq, Nat.reduceAdd, Nat.reduceLeDiff, Nat.reduceSub, Nat.reduceMul, Int.reduceEq, Nat.reduceBEq]) <;> rfl), hL, rdata_⟩ ?_
  rintro m140 T134 H133 hl135 ho136 ⟨x125, xs126, rows129, hI138, t139, hL137, hr130⟩
  have t143 : T134 0 = vdata_ := by rw [ho136.get rfl]; (try simp only [go_sem, ↓reduceIte, Nat.reduceEqDiff, reduceCtorEq, Nat.reduceAdd, Nat.reduceLeDiff, Nat.reduceSub, Nat.reduceMul, Int.reduceEq, Nat.reduceBEq])
  have t144 : T134 1 = Value.int .i64 a_ := by rw [ho136.get rfl]; (try simp only [go_sem, ↓reduceIte, Nat.reduceEqDiff, reduceCtorEq, Nat.reduceAdd, Nat.reduceLeDiff, Nat.reduceSub, Nat.reduceMul, Int.reduceEq, Nat.reduceBEq])
  have t145 : T134 2 = Value.int .i64 b_ := by rw [ho136.get rfl]; (try simp only [go_sem, ↓reduceIte, Nat.reduceEqDiff, reduceCtorEq, Nat.reduceAdd, Nat.reduceLeDiff, Nat.reduceSub, Nat.reduceMul, Int.reduceEq, Nat.reduceBEq])
  have t146 : T134 3 = Value.int .i64 n_ := by rw [ho136.get rfl]; (try simp only [go_sem, ↓reduceIte, Nat.reduceEqDiff, reduceCtorEq, Nat.reduceAdd, Nat.reduceLeDiff, Nat.reduceSub, Nat.reduceMul, Int.reduceEq, Nat.reduceBEq])
  have h := hSI131 m140 x125 xs126 hI138
  (try simp only [go_sem, ↓reduceIte, Nat.reduceEqDiff, reduceCtorEq, Nat.reduceAdd, Nat.reduceLeDiff, Nat.reduceSub, Nat.reduceMul, Int.reduceEq, Nat.reduceBEq, t139, t143, t144, t145, t146])
  cases hc147 : (decide (x125 < n_)) with
  | true =>
    have h := h.1 hc147
    obtain ⟨hi148, h⟩ := h
    obtain ⟨b149, c150, hkb154, hia151, hrd152, hg155, hlt156, hR153⟩ := hL137.atR 0 rfl hr130 (k := .i64) hi148
    obtain rfl : c150 = [Value.int .i64 (gt xs126 (IntKind.i64.wrap (b_ + x125)))] := hR153
    obtain ⟨hi157, h⟩ := h
    obtain ⟨b158, c159, hkb163, hia160, hrd161, hg164, hlt165, hR162⟩ := hL137.atR 0 rfl hr130 (k := .i64) hi157
    obtain rfl : c159 = [Value.int .i64 (gt xs126 (IntKind.i64.wrap (a_ + x125)))] := hR162
    (try simp only [go_sem, ↓reduceIte, Nat.reduceEqDiff, reduceCtorEq, Nat.reduceAdd, Nat.reduceLeDiff, Nat.reduceSub, Nat.reduceMul, Int.reduceEq, Nat.reduceBEq, t139, t143, t144, t145, t146, hc147, hia151, hia160, hrd152, hrd161])
    refine awL_wrR (sub := 0) (r' := [Value.int .i64 (gt xs126 (IntKind.i64.wrap (b_ + x125)))]) 0 hl135 hL137 rfl hkb163 hlt165 hg164 (by (try simp only [go_sem, ↓reduceIte, Nat.reduceEqDiff, reduceCtorEq, Nat.reduceAdd, Nat.reduceLeDiff, Nat.reduceSub, Nat.reduceMul, Int.reduceEq, Nat.reduceBEq, t139, t143, t144, t145, t146, hc147, hia151, hia160, hrd152, hrd161]) <;> rfl) rfl (by (try simp only [go_sem, ↓reduceIte, Nat.reduceEqDiff, reduceCtorEq, Nat.reduceAdd, Nat.reduceLeDiff, Nat.reduceSub, Nat.reduceMul, Int.reduceEq, Nat.reduceBEq, t139, t143, t144, t145, t146, hc147, hia151, hia160, hrd152, hrd161]) <;> rfl) (by (try simp only [go_sem, ↓reduceIte, Nat.reduceEqDiff, reduceCtorEq, Nat.reduceAdd, Nat.reduceLeDiff, Nat.reduceSub, Nat.reduceMul, Int.reduceEq, Nat.reduceBEq, t139, t143, t144, t145, t146, hc147, hia151, hia160, hrd152, hrd161]) <;> rfl) fun H166 hl167 hL168 => ?_
    have hr169 := hr130.set ((IntKind.i64.wrap (a_ + x125))).toNat (show (RI .i64) H (gt xs126 (IntKind.i64.wrap (b_ + x125))) [Value.int .i64 (gt xs126 (IntKind.i64.wrap (b_ + x125)))] from rfl)
    obtain ⟨xs170, hxs171⟩ : ∃ ys, ys = (xs126.set ((IntKind.i64.wrap (a_ + x125))).toNat (gt xs126 (IntKind.i64.wrap (b_ + x125)))) := ⟨_, rfl⟩
    rw [← hxs171] at hr169
    have h := h xs170 hxs171
    generalize (rows129.set ((IntKind.i64.wrap (a_ + x125))).toNat [Value.int .i64 (gt xs126 (IntKind.i64.wrap (b_ + x125)))]) = rows172 at hL168 hr169
    obtain ⟨hi173, h⟩ := h
    obtain ⟨b174, c175, hkb179, hia176, hrd177, hg180, hlt181, hR178⟩ := hL168.atR 0 rfl hr169 (k := .i64) hi173
    obtain rfl : c175 = [Value.int .i64 (gt xs170 (IntKind.i64.wrap (b_ + x125)))] := hR178
    (try simp only [go_sem, ↓reduceIte, Nat.reduceEqDiff, reduceCtorEq, Nat.reduceAdd, Nat.reduceLeDiff, Nat.reduceSub, Nat.reduceMul, Int.reduceEq, Nat.reduceBEq, t139, t143, t144, t145, t146, hc147, hia160, hia176, hrd177])
    refine awL_wrR (sub := 0) (r' := [Value.int .i64 (gt xs126 (IntKind.i64.wrap (a_ + x125)))]) 0 hl167 hL168 rfl hkb179 hlt181 hg180 (by (try simp only [go_sem, ↓reduceIte, Nat.reduceEqDiff, reduceCtorEq, Nat.reduceAdd, Nat.reduceLeDiff, Nat.reduceSub, Nat.reduceMul, Int.reduceEq, Nat.reduceBEq, t139, t143, t144, t145, t146, hc147, hia160, hia176, hrd177]) <;> rfl) rfl (by (try simp only [go_sem, ↓reduceIte, Nat.reduceEqDiff, reduceCtorEq, Nat.reduceAdd, Nat.reduceLeDiff, Nat.reduceSub, Nat.reduceMul, Int.reduceEq, Nat.reduceBEq, t139, t143, t144, t145, t146, hc147, hia160, hia176, hrd177]) <;> rfl) (by (try simp only [go_sem, ↓reduceIte, Nat.reduceEqDiff, reduceCtorEq, Nat.reduceAdd, Nat.reduceLeDiff, Nat.reduceSub, Nat.reduceMul, Int.reduceEq, Nat.reduceBEq, t139, t143, t144, t145, t146, hc147, hia160, hia176, hrd177]) <;> rfl) fun H182 hl183 hL184 => ?_
    have hr185 := hr169.set ((IntKind.i64.wrap (b_ + x125))).toNat (show (RI .i64) H (gt xs126 (IntKind.i64.wrap (a_ + x125))) [Value.int .i64 (gt xs126 (IntKind.i64.wrap (a_ + x125)))] from rfl)
    obtain ⟨xs186, hxs187⟩ : ∃ ys, ys = (xs170.set ((IntKind.i64.wrap (b_ + x125))).toNat (gt xs126 (IntKind.i64.wrap (a_ + x125)))) := ⟨_, rfl⟩
    rw [← hxs187] at hr185
    have h := h xs186 hxs187
    generalize (rows172.set ((IntKind.i64.wrap (b_ + x125))).toNat [Value.int .i64 (gt xs126 (IntKind.i64.wrap (a_ + x125)))]) = rows188 at hL184 hr185
    obtain ⟨m141, hm142, h⟩ := h
    (try simp only [go_sem, ↓reduceIte, Nat.reduceEqDiff, reduceCtorEq, Nat.reduceAdd, Nat.reduceLeDiff, Nat.reduceSub, Nat.reduceMul, Int.reduceEq, Nat.reduceBEq, t139, t143, t144, t145, t146, hc147, hia160, hia176])
    exact ⟨m141, H182, hm142, Hp.sub.refl _, (IntKind.i64.wrap (x125 + 1)), xs186, rows188, h, (by (try simp only [go_sem, ↓reduceIte, Nat.reduceEqDiff, reduceCtorEq, Nat.reduceAdd, Nat.reduceLeDiff, Nat.reduceSub, Nat.reduceMul, Int.reduceEq, Nat.reduceBEq, t139, t143, t144, t145, t146, hc147, hia160, hia176]) <;> rfl), hL184, hr185⟩
  | false =>
    have h := h.2 hc147
    (try simp only [go_sem, ↓reduceIte, Nat.reduceEqDiff, reduceCtorEq, Nat.reduceAdd, Nat.reduceLeDiff, Nat.reduceSub, Nat.reduceMul, Int.reduceEq, Nat.reduceBEq, t139, t143, t144, t145, t146, hc147])
    first | exact retQ_n0 H133 (Hp.sub.refl _) (hK _ h H133 rows129 hl135 (hL137.sel [0] (by decide)) hr130) | exact retQ_r0 H133 (Hp.sub.refl _) (hK _ h H133 rows129 hl135 (hL137.sel [0] (by decide)) hr130)
def w_slices_rotateCmpFunc_int64 (data_ : (List Int)) (a_ : Int) (m_ : Int) (b_ : Int) (cmp_ : (Int → Int → (Int → Prop) → Prop)) (Q : (List Int) → Prop) : Prop := (∃ I120 : Nat → Int → Int → (List Int) → Prop, (∃ m, I120 m (IntKind.i64.wrap (m_ - a_)) (IntKind.i64.wrap (b_ - m_)) data_) ∧ (∀ (m130 : Nat) (x113 : Int) (x114 : Int) (xs115 : List Int), I120 m130 x113 x114 xs115 → (((!decide (x113 = x114)) = true → (((decide (x113 > x114)) = true → (xs115.length ≤ 1152921504606846976 ∧ (w_slices_swapRangeCmpFunc_int64 xs115 (IntKind.i64.wrap (m_ - x113)) m_ x114 cmp_ fun xs146 => (∃ m131, m131 < m130 ∧ I120 m131 (IntKind.i64.wrap (x113 - x114)) x114 xs146)))) ∧ ((decide (x113 > x114)) = false → (xs115.length ≤ 1152921504606846976 ∧ (w_slices_swapRangeCmpFunc_int64 xs115 (IntKind.i64.wrap (m_ - x113)) (IntKind.i64.wrap ((IntKind.i64.wrap (m_ + x114)) - x113)) x113 cmp_ fun xs157 => (∃ m131, m131 < m130 ∧ I120 m131 x113 (IntKind.i64.wrap (x114 - x113)) xs157)))))) ∧ ((!decide (x113 = x114)) = false → (xs115.length ≤ 1152921504606846976 ∧ (w_slices_swapRangeCmpFunc_int64 xs115 (IntKind.i64.wrap (m_ - x113)) m_ x113 cmp_ fun xs168 => Q xs168))))))
theorem k_slices_rotateCmpFunc_int64 {data_ : (List Int)} {a_ : Int} {m_ : Int} {b_ : Int} {cmp_ : (Int → Int → (Int → Prop) → Prop)} {Q : (List Int) → Prop} (h : w_slices_rotateCmpFunc_int64 data_ a_ m_ b_ cmp_ Q) {H H0 : Hp} {kbdata_ : Option Nat} {tydata_ : TypeId} {vdata_ : Value} {rowsdata_ : List (List Value)} (hH : H = H0.minus kbdata_) (hodata_ : E.ok H0 (.own kbdata_ tydata_ 1 vdata_ rowsdata_)) (rdata_ : Rows (RI .i64) H data_ rowsdata_) {gcmp_ : FuncId} {cpcmp_ : List Value} (hccmp_ : ∀ y0 y1 Q', cmp_ y0 y1 Q' → ∀ H1, H.sub H1 → ∀ K : Value → Hp → Prop, (∀ r, Q' r → K (Value.int .i64 r) H1) → ACalls Go.Proofs.Try.prog gcmp_ ([Value.int .i64 y0, Value.int .i64 y1] ++ cpcmp_).toArray H1 K) {K : Value → Hp → Prop} (hK : ∀ (x' : (List Int)), Q x' → ∀ (H' : Hp) (rows' : List (List Value)), Live H' → Loc H H' ([] ++ [.own kbdata_ tydata_ 1 vdata_ rows']) → Rows (RI .i64) H x' rows' → K (oneOf []) H') :
    ACalls Go.Proofs.Try.prog n_slices_rotateCmpFunc_int64 #[vdata_, Value.int .i64 a_, Value.int .i64 m_, Value.int .i64 b_, .func (.func gcmp_) #[] cpcmp_.toArray] H0 K := by
  unfold w_slices_rotateCmpFunc_int64 at h
  refine acalls_go fn_slices_rotateCmpFunc_int64 rfl fun hl => ?_
  simp only [c_slices_rotateCmpFunc_int64]
  have hL := Loc.one hH hodata_
  (try simp only [go_sem, ↓reduceIte, Nat.reduceEqDiff, reduceCtorEq, Nat.reduceAdd, Nat.reduceLeDiff, Nat.reduceSub, Nat.reduceMul, Int.reduceEq, Nat.reduceBEq])
  obtain ⟨I120, ⟨m0, h0⟩, hSI120⟩ := h
  refine aw_loopM hl (fun m130 T' H' => ∃ x113 x114 xs115 rows118, I120 m130 x113 x114 xs115 ∧ T' 10 = Value.int .i64 x113 ∧ T' 11 = Value.int .i64 x114 ∧ Loc H H' [.own kbdata_ tydata_ 1 vdata_ rows118] ∧ Rows (RI .i64) H xs115 rows118) m0 H0 (Hp.sub.refl _) ⟨(IntKind.i64.wrap (m_ - a_)), (IntKind.i64.wrap (b_ - m_)), data_, rowsdata_, h0, (by (try simp only [go_sem, ↓reduceIte, Nat.reduceEqDiff, reduceCtorEq, Nat.reduceAdd, Nat.reduceLeDiff, Nat.reduceSub, Nat.reduceMul, Int.reduceEq, Nat.reduceBEq]) <;> rfl), (by (try simp only [go_sem, ↓reduceIte, Nat.reduceEqDiff, reduceCtorEq, Nat.reduceAdd, Nat.reduceLeDiff, Nat.reduceSub, Nat.reduceMul, Int.reduceEq, Nat.reduceBEq]) <;> rfl), hL, rdata_⟩ ?_
  rintro m130 T123 H122 hl124 ho125 ⟨x113, x114, xs115, rows118, hI127, t128, t129, hL126, hr119⟩
  have t133 : T123 0 = vdata_ := by rw [ho125.get rfl]; (try simp only [go_sem, ↓reduceIte, Nat.reduceEqDiff, reduceCtorEq, Nat.reduceAdd, Nat.reduceLeDiff, Nat.reduceSub, Nat.reduceMul, Int.reduceEq, Nat.reduceBEq])
  have t134 : T123 2 = Value.int .i64 m_ := by rw [ho125.get rfl]; (try simp only [go_sem, ↓reduceIte, Nat.reduceEqDiff, reduceCtorEq, Nat.reduceAdd, Nat.reduceLeDiff, Nat.reduceSub, Nat.reduceMul, Int.reduceEq, Nat.reduceBEq])
  have t135 : T123 4 = Value.func (.func gcmp_) #[] cpcmp_.toArray := by rw [ho125.get rfl]; (try simp only [go_sem, ↓reduceIte, Nat.reduceEqDiff, reduceCtorEq, Nat.reduceAdd, Nat.reduceLeDiff, Nat.reduceSub, Nat.reduceMul, Int.reduceEq, Nat.reduceBEq])
  have h := hSI120 m130 x113 x114 xs115 hI127
  (try simp only [go_sem, ↓reduceIte, Nat.reduceEqDiff, reduceCtorEq, Nat.reduceAdd, Nat.reduceLeDiff, Nat.reduceSub, Nat.reduceMul, Int.reduceEq, Nat.reduceBEq, t128, t129, t133, t134, t135])
  cases hc136 : (!decide (x113 = x114)) with
  | true =>
    have h := h.1 hc136
    (try simp only [go_sem, ↓reduceIte, Nat.reduceEqDiff, reduceCtorEq, Nat.reduceAdd, Nat.reduceLeDiff, Nat.reduceSub, Nat.reduceMul, Int.reduceEq, Nat.reduceBEq, t128, t129, t133, t134, t135, hc136])
    cases hc137 : (decide (x113 > x114)) with
    | true =>
      have h := h.1 hc137
      obtain ⟨hle138, h⟩ := h
      (try simp only [go_sem, ↓reduceIte, Nat.reduceEqDiff, reduceCtorEq, Nat.reduceAdd, Nat.reduceLeDiff, Nat.reduceSub, Nat.reduceMul, Int.reduceEq, Nat.reduceBEq, t128, t129, t133, t134, t135, hc136, hc137])
      refine aw_callL (by (try simp only [go_sem, ↓reduceIte, Nat.reduceEqDiff, reduceCtorEq, Nat.reduceAdd, Nat.reduceLeDiff, Nat.reduceSub, Nat.reduceMul, Int.reduceEq, Nat.reduceBEq, t128, t129, t133, t134, t135, hc136, hc137]) <;> rfl) (by (try simp only [go_sem, ↓reduceIte, Nat.reduceEqDiff, reduceCtorEq, Nat.reduceAdd, Nat.reduceLeDiff, Nat.reduceSub, Nat.reduceMul, Int.reduceEq, Nat.reduceBEq, t128, t129, t133, t134, t135, hc136, hc137]) <;> rfl) (k_slices_swapRangeCmpFunc_int64 h rfl (hL126.get 0 rfl) (Rows.flat (fun _ _ hx => hx) hr119) (fun x139 x140 Q' hq H1 hs K' hK' => hccmp_ x139 x140 Q' hq H1 ((hL126.subm 0 rfl).trans hs) K' hK') fun  xs146 h H142  rows147 _ hL144  hr148 hl143 => ?_)
      have hL145 := hL126.back 0 rfl (L' := []) hL144
      have hr148' : Rows (RI .i64) H xs146 rows147 := Rows.flat (fun _ _ hx => hx) hr148
      obtain ⟨m131, hm132, h⟩ := h
      (try simp only [go_sem, ↓reduceIte, Nat.reduceEqDiff, reduceCtorEq, Nat.reduceAdd, Nat.reduceLeDiff, Nat.reduceSub, Nat.reduceMul, Int.reduceEq, Nat.reduceBEq, t128, t129, t133, t134, t135, hc136, hc137])
      exact ⟨m131, H142, hm132, Hp.sub.refl _, (IntKind.i64.wrap (x113 - x114)), x114, xs146, rows147, h, (by (try simp only [go_sem, ↓reduceIte, Nat.reduceEqDiff, reduceCtorEq, Nat.reduceAdd, Nat.reduceLeDiff, Nat.reduceSub, Nat.reduceMul, Int.reduceEq, Nat.reduceBEq, t128, t129, t133, t134, t135, hc136, hc137]) <;> rfl), (by (try simp only [go_sem, ↓reduceIte, Nat.reduceEqDiff, reduceCtorEq, Nat.reduceAdd, Nat.reduceLeDiff, Nat.reduceSub, Nat.reduceMul, Int.reduceEq, Nat.reduceBEq, t128, t129, t133, t134, t135, hc136, hc137]) <;> rfl), hL145, hr148'⟩
    | false =>
      have h := h.2 hc137
      obtain ⟨hle149, h⟩ := h
      (try simp only [go_sem, ↓reduceIte, Nat.reduceEqDiff, reduceCtorEq, Nat.reduceAdd, Nat.reduceLeDiff, Nat.reduceSub, Nat.reduceMul, Int.reduceEq, Nat.reduceBEq, t128, t129, t133, t134, t135, hc136, hc137])
      refine aw_callL (by (try simp only [go_sem, ↓reduceIte, Nat.reduceEqDiff, reduceCtorEq, Nat.reduceAdd, Nat.reduceLeDiff, Nat.reduceSub, Nat.reduceMul, Int.reduceEq, Nat.reduceBEq, t128, t129, t133, t134, t135, hc136, hc137]) <;> rfl) (by (try simp only [go_sem, ↓reduceIte, Nat.reduceEqDiff, reduceCtorEq, Nat.reduceAdd, Nat.reduceLeDiff, Nat.reduceSub, Nat.reduceMul, Int.reduceEq, Nat.reduceBEq, t128, t129, t133, t134, t135, hc136, hc137]) <;> rfl) (k_slices_swapRangeCmpFunc_int64 h rfl (hL126.get 0 rfl) (Rows.flat (fun _ _ hx => hx) hr119) (fun x150 x151 Q' hq H1 hs K' hK' => hccmp_ x150 x151 Q' hq H1 ((hL126.subm 0 rfl).trans hs) K' hK') fun  xs157 h H153  rows158 _ hL155  hr159 hl154 => ?_)
      have hL156 := hL126.back 0 rfl (L' := []) hL155
      have hr159' : Rows (RI .i64) H xs157 rows158 := Rows.flat (fun _ _ hx => hx) hr159
      obtain ⟨m131, hm132, h⟩ := h
      (try simp only [go_sem, ↓reduceIte, Nat.reduceEqDiff, reduceCtorEq, Nat.reduceAdd, Nat.reduceLeDiff, Nat.reduceSub, Nat.reduceMul, Int.reduceEq, Nat.reduceBEq, t128, t129, t133, t134, t135, hc136, hc137])
      exact ⟨m131, H153, hm132, Hp.sub.refl _, x113, (IntKind.i64.wrap (x114 - x113)), xs157, rows158, h, (by (try simp only [go_sem, ↓reduceIte, Nat.reduceEqDiff, reduceCtorEq, Nat.reduceAdd, Nat.reduceLeDiff, Nat.reduceSub, Nat.reduceMul, Int.reduceEq, Nat.reduceBEq, t128, t129, t133, t134, t135, hc136, hc137]) <;> rfl), (by (try simp only [go_sem, ↓reduceIte, Nat.reduceEqDiff, reduceCtorEq, Nat.reduceAdd, Nat.reduceLeDiff, Nat.reduceSub, Nat.reduceMul, Int.reduceEq, Nat.reduceBEq, t128, t129, t133, t134, t135, hc136, hc137]) <;> rfl), hL156, hr159'⟩
  | false =>
    have h := h.2 hc136
    obtain ⟨hle160, h⟩ := h
    (try simp only [go_sem, ↓reduceIte, Nat.reduceEqDiff, reduceCtorEq, Nat.reduceAdd, Nat.reduceLeDiff, Nat.reduceSub, Nat.reduceMul, Int.reduceEq, Nat.reduceBEq, t128, t129, t133, t134, t135, hc136])
    refine aw_callL (by (try simp only [go_sem, ↓reduceIte, Nat.reduceEqDiff, reduceCtorEq, Nat.reduceAdd, Nat.reduceLeDiff, Nat.reduceSub, Nat.reduceMul, Int.reduceEq, Nat.reduceBEq, t128, t129, t133, t134, t135, hc136]) <;> rfl) (by (try simp only [go_sem, ↓reduceIte, Nat.reduceEqDiff, reduceCtorEq, Nat.reduceAdd, Nat.reduceLeDiff, Nat.reduceSub, Nat.reduceMul, Int.reduceEq, Nat.reduceBEq, t128, t129, t133, t134, t135, hc136]) <;> rfl) (k_slices_swapRangeCmpFunc_int64 h rfl (hL126.get 0 rfl) (Rows.flat (fun _ _ hx => hx) hr119) (fun x161 x162 Q' hq H1 hs K' hK' => hccmp_ x161 x162 Q' hq H1 ((hL126.subm 0 rfl).trans hs) K' hK') fun  xs168 h H164  rows169 _ hL166  hr170 hl165 => ?_)
    have hL167 := hL126.back 0 rfl (L' := []) hL166
    have hr170' : Rows (RI .i64) H xs168 rows169 := Rows.flat (fun _ _ hx => hx) hr170
    (try simp only [go_sem, ↓reduceIte, Nat.reduceEqDiff, reduceCtorEq, Nat.reduceAdd, Nat.reduceLeDiff, Nat.reduceSub, Nat.reduceMul, Int.reduceEq, Nat.reduceBEq, t128, t129, t133, t134, t135, hc136])
    first | exact retQ_n0 H164 (Hp.sub.refl _) (hK _ h H164 rows169 hl165 (hL167.sel [0] (by decide)) hr170') | exact retQ_r0 H164 (Hp.sub.refl _) (hK _ h H164 rows169 hl165 (hL167.sel [0] (by decide)) hr170')
def w_slices_symMergeCmpFunc_int64 (rec : (List Int) → Int → Int → Int → (Int → Int → (Int → Prop) → Prop) → ((List Int) → Prop) → Prop) (data_ : (List Int)) (a_ : Int) (m_ : Int) (b_ : Int) (cmp_ : (Int → Int → (Int → Prop) → Prop)) (Q : (List Int) → Prop) : Prop := (((decide ((IntKind.i64.wrap (m_ - a_)) = 1)) = true → (∃ I455 : Nat → Int → Int → (List Int) → Prop, (∃ m, I455 m m_ b_ data_) ∧ (∀ (m465 : Nat) (x448 : Int) (x449 : Int) (xs450 : List Int), I455 m465 x448 x449 xs450 → (((decide (x448 < x449)) = true → (In (IntKind.i64.wrap (Int.fdiv (IntKind.u64.wrap (IntKind.i64.wrap (x448 + x449))) 2)) xs450.length ∧ (In a_ xs450.length ∧ (cmp_ (gt xs450 (IntKind.i64.wrap (Int.fdiv (IntKind.u64.wrap (IntKind.i64.wrap (x448 + x449))) 2))) (gt xs450 a_) fun r490 => (((decide (r490 < 0)) = true → (∃ m466, m466 < m465 ∧ I455 m466 (IntKind.i64.wrap ((IntKind.i64.wrap (Int.fdiv (IntKind.u64.wrap (IntKind.i64.wrap (x448 + x449))) 2)) + 1)) x449 xs450)) ∧ ((decide (r490 < 0)) = false → (∃ m466, m466 < m465 ∧ I455 m466 x448 (IntKind.i64.wrap (Int.fdiv (IntKind.u64.wrap (IntKind.i64.wrap (x448 + x449))) 2)) xs450))))))) ∧ ((decide (x448 < x449)) = false → (∃ I617 : Nat → Int → (List Int) → Prop, (∃ m, I617 m a_ xs450) ∧ (∀ (m626 : Nat) (x611 : Int) (xs612 : List Int), I617 m626 x611 xs612 → (((decide (x611 < (IntKind.i64.wrap (x448 - 1)))) = true → (In (IntKind.i64.wrap (x611 + 1)) xs612.length ∧ (In x611 xs612.length ∧ (∀ xs654, xs654 = (xs612.set (x611).toNat (gt xs612 (IntKind.i64.wrap (x611 + 1)))) → (In (IntKind.i64.wrap (x611 + 1)) xs654.length ∧ (∀ xs670, xs670 = (xs654.set ((IntKind.i64.wrap (x611 + 1))).toNat (gt xs612 x611)) → (∃ m627, m627 < m626 ∧ I617 m627 (IntKind.i64.wrap (x611 + 1)) xs670))))))) ∧ ((decide (x611 < (IntKind.i64.wrap (x448 - 1)))) = false → Q xs612))))))))) ∧ ((decide ((IntKind.i64.wrap (m_ - a_)) = 1)) = false → (((decide ((IntKind.i64.wrap (b_ - m_)) = 1)) = true → (∃ I1126 : Nat → Int → Int → (List Int) → Prop, (∃ m, I1126 m a_ m_ data_) ∧ (∀ (m1136 : Nat) (x1119 : Int) (x1120 : Int) (xs1121 : List Int), I1126 m1136 x1119 x1120 xs1121 → (((decide (x1119 < x1120)) = true → (In m_ xs1121.length ∧ (In (IntKind.i64.wrap (Int.fdiv (IntKind.u64.wrap (IntKind.i64.wrap (x1119 + x1120))) 2)) xs1121.length ∧ (cmp_ (gt xs1121 m_) (gt xs1121 (IntKind.i64.wrap (Int.fdiv (IntKind.u64.wrap (IntKind.i64.wrap (x1119 + x1120))) 2))) fun r1161 => (((!(decide (r1161 < 0))) = true → (∃ m1137, m1137 < m1136 ∧ I1126 m1137 (IntKind.i64.wrap ((IntKind.i64.wrap (Int.fdiv (IntKind.u64.wrap (IntKind.i64.wrap (x1119 + x1120))) 2)) + 1)) x1120 xs1121)) ∧ ((!(decide (r1161 < 0))) = false → (∃ m1137, m1137 < m1136 ∧ I1126 m1137 x1119 (IntKind.i64.wrap (Int.fdiv (IntKind.u64.wrap (IntKind.i64.wrap (x1119 + x1120))) 2)) xs1121))))))) ∧ ((decide (x1119 < x1120)) = false → (∃ I1288 : Nat → Int → (List Int) → Prop, (∃ m, I1288 m m_ xs1121) ∧ (∀ (m1297 : Nat) (x1282 : Int) (xs1283 : List Int), I1288 m1297 x1282 xs1283 → (((decide (x1282 > x1119)) = true → (In (IntKind.i64.wrap (x1282 - 1)) xs1283.length ∧ (In x1282 xs1283.length ∧ (∀ xs1325, xs1325 = (xs1283.set (x1282).toNat (gt xs1283 (IntKind.i64.wrap (x1282 - 1)))) → (In (IntKind.i64.wrap (x1282 - 1)) xs1325.length ∧ (∀ xs1341, xs1341 = (xs1325.set ((IntKind.i64.wrap (x1282 - 1))).toNat (gt xs1283 x1282)) → (∃ m1298, m1298 < m1297 ∧ I1288 m1298 (IntKind.i64.wrap (x1282 - 1)) xs1341))))))) ∧ ((decide (x1282 > x1119)) = false → Q xs1283))))))))) ∧ ((decide ((IntKind.i64.wrap (b_ - m_)) = 1)) = false → (∃ k1346 : Int → Int → Prop, (∀ (x1344 : Int) (x1345 : Int), k1346 x1344 x1345 → (∃ I1743 : Nat → Int → Int → (List Int) → Prop, (∃ m, I1743 m x1344 x1345 data_) ∧ (∀ (m1753 : Nat) (x1736 : Int) (x1737 : Int) (xs1738 : List Int), I1743 m1753 x1736 x1737 xs1738 → (((decide (x1736 < x1737)) = true → (∀ z1765, z1765 = (IntKind.i64.wrap ((IntKind.i64.wrap ((IntKind.i64.wrap ((IntKind.i64.wrap (Int.fdiv (IntKind.u64.wrap (IntKind.i64.wrap (a_ + b_))) 2)) + m_)) - 1)) - (IntKind.i64.wrap (Int.fdiv (IntKind.u64.wrap (IntKind.i64.wrap (x1736 + x1737))) 2)))) → (In z1765 xs1738.length ∧ (In (IntKind.i64.wrap (Int.fdiv (IntKind.u64.wrap (IntKind.i64.wrap (x1736 + x1737))) 2)) xs1738.length ∧ (cmp_ (gt xs1738 z1765) (gt xs1738 (IntKind.i64.wrap (Int.fdiv (IntKind.u64.wrap (IntKind.i64.wrap (x1736 + x1737))) 2))) fun r1785 => (((!(decide (r1785 < 0))) = true → (∃ m1754, m1754 < m1753 ∧ I1743 m1754 (IntKind.i64.wrap ((IntKind.i64.wrap (Int.fdiv (IntKind.u64.wrap (IntKind.i64.wrap (x1736 + x1737))) 2)) + 1)) x1737 xs1738)) ∧ ((!(decide (r1785 < 0))) = false → (∃ m1754, m1754 < m1753 ∧ I1743 m1754 x1736 (IntKind.i64.wrap (Int.fdiv (IntKind.u64.wrap (IntKind.i64.wrap (x1736 + x1737))) 2)) xs1738)))))))) ∧ ((decide (x1736 < x1737)) = false → (∃ k1816 : (List Int) → Prop, (∀ (xs1813 : List Int), k1816 xs1813 → (∃ k1872 : (List Int) → Prop, (∀ (xs1869 : List Int), k1872 xs1869 → (∀ z1898, z1898 = (decide ((IntKind.i64.wrap (Int.fdiv (IntKind.u64.wrap (IntKind.i64.wrap (a_ + b_))) 2)) < (IntKind.i64.wrap ((IntKind.i64.wrap ((IntKind.i64.wrap (Int.fdiv (IntKind.u64.wrap (IntKind.i64.wrap (a_ + b_))) 2)) + m_)) - x1736)))) → (((z1898 && (decide ((IntKind.i64.wrap ((IntKind.i64.wrap ((IntKind.i64.wrap (Int.fdiv (IntKind.u64.wrap (IntKind.i64.wrap (a_ + b_))) 2)) + m_)) - x1736)) < b_))) = true → (xs1869.length ≤ 1152921504606846976 ∧ (rec xs1869 (IntKind.i64.wrap (Int.fdiv (IntKind.u64.wrap (IntKind.i64.wrap (a_ + b_))) 2)) (IntKind.i64.wrap ((IntKind.i64.wrap ((IntKind.i64.wrap (Int.fdiv (IntKind.u64.wrap (IntKind.i64.wrap (a_ + b_))) 2)) + m_)) - x1736)) b_ cmp_ fun xs1921 => Q xs1921))) ∧ ((z1898 && (decide ((IntKind.i64.wrap ((IntKind.i64.wrap ((IntKind.i64.wrap (Int.fdiv (IntKind.u64.wrap (IntKind.i64.wrap (a_ + b_))) 2)) + m_)) - x1736)) < b_))) = false → Q xs1869)))) ∧ (((decide (a_ < x1736)) && (decide (x1736 < (IntKind.i64.wrap (Int.fdiv (IntKind.u64.wrap (IntKind.i64.wrap (a_ + b_))) 2))))) = true → (xs1813.length ≤ 1152921504606846976 ∧ (rec xs1813 a_ x1736 (IntKind.i64.wrap (Int.fdiv (IntKind.u64.wrap (IntKind.i64.wrap (a_ + b_))) 2)) cmp_ fun xs1887 => k1872 xs1887))) ∧ (((decide (a_ < x1736)) && (decide (x1736 < (IntKind.i64.wrap (Int.fdiv (IntKind.u64.wrap (IntKind.i64.wrap (a_ + b_))) 2))))) = false → k1872 xs1813))) ∧ (((decide (x1736 < m_)) && (decide (m_ < (IntKind.i64.wrap ((IntKind.i64.wrap ((IntKind.i64.wrap (Int.fdiv (IntKind.u64.wrap (IntKind.i64.wrap (a_ + b_))) 2)) + m_)) - x1736))))) = true → (xs1738.length ≤ 1152921504606846976 ∧ (w_slices_rotateCmpFunc_int64 xs1738 x1736 m_ (IntKind.i64.wrap ((IntKind.i64.wrap ((IntKind.i64.wrap (Int.fdiv (IntKind.u64.wrap (IntKind.i64.wrap (a_ + b_))) 2)) + m_)) - x1736)) cmp_ fun xs1831 => k1816 xs1831))) ∧ (((decide (x1736 < m_)) && (decide (m_ < (IntKind.i64.wrap ((IntKind.i64.wrap ((IntKind.i64.wrap (Int.fdiv (IntKind.u64.wrap (IntKind.i64.wrap (a_ + b_))) 2)) + m_)) - x1736))))) = false → k1816 xs1738))))))) ∧ ((decide (m_ > (IntKind.i64.wrap (Int.fdiv (IntKind.u64.wrap (IntKind.i64.wrap (a_ + b_))) 2)))) = true → k1346 (IntKind.i64.wrap ((IntKind.i64.wrap ((IntKind.i64.wrap (Int.fdiv (IntKind.u64.wrap (IntKind.i64.wrap (a_ + b_))) 2)) + m_)) - b_)) (IntKind.i64.wrap (Int.fdiv (IntKind.u64.wrap (IntKind.i64.wrap (a_ + b_))) 2))) ∧ ((decide (m_ > (IntKind.i64.wrap (Int.fdiv (IntKind.u64.wrap (IntKind.i64.wrap (a_ + b_))) 2)))) = false → k1346 a_ m_))))))
def W_slices_symMergeCmpFunc_int64 : Nat → (List Int) → Int → Int → Int → (Int → Int → (Int → Prop) → Prop) → ((List Int) → Prop) → Prop
  | 0 => fun _ _ _ _ _ _ => False
  | n + 1 => w_slices_symMergeCmpFunc_int64 (W_slices_symMergeCmpFunc_int64 n)
def V_slices_symMergeCmpFunc_int64 (data_ : (List Int)) (a_ : Int) (m_ : Int) (b_ : Int) (cmp_ : (Int → Int → (Int → Prop) → Prop)) (Q : (List Int) → Prop) : Prop := ∃ n, W_slices_symMergeCmpFunc_int64 n data_ a_ m_ b_ cmp_ Q
theorem kk_slices_symMergeCmpFunc_int64 (n : Nat) : ∀ {data_ : (List Int)} {a_ : Int} {m_ : Int} {b_ : Int} {cmp_ : (Int → Int → (Int → Prop) → Prop)} {Q : (List Int) → Prop} (h : W_slices_symMergeCmpFunc_int64 n data_ a_ m_ b_ cmp_ Q) {H H0 : Hp} {kbdata_ : Option Nat} {tydata_ : TypeId} {vdata_ : Value} {rowsdata_ : List (List Value)} (hH : H = H0.minus kbdata_) (hodata_ : E.ok H0 (.own kbdata_ tydata_ 1 vdata_ rowsdata_)) (rdata_ : Rows (RI .i64) H data_ rowsdata_) {gcmp_ : FuncId} {cpcmp_ : List Value} (hccmp_ : ∀ y0 y1 Q', cmp_ y0 y1 Q' → ∀ H1, H.sub H1 → ∀ K : Value → Hp → Prop, (∀ r, Q' r → K (Value.int .i64 r) H1) → ACalls Go.Proofs.Try.prog gcmp_ ([Value.int .i64 y0, Value.int .i64 y1] ++ cpcmp_).toArray H1 K) {K : Value → Hp → Prop} (hK : ∀ (x' : (List Int)), Q x' → ∀ (H' : Hp) (rows' : List (List Value)), Live H' → Loc H H' ([] ++ [.own kbdata_ tydata_ 1 vdata_ rows']) → Rows (RI .i64) H x' rows' → K (oneOf []) H'), ACalls Go.Proofs.Try.prog n_slices_symMergeCmpFunc_int64 #[vdata_, Value.int .i64 a_, Value.int .i64 m_, Value.int .i64 b_, .func (.func gcmp_) #[] cpcmp_.toArray] H0 K := by
  induction n with
  | zero => intro data_ a_ m_ b_ cmp_ Q h H H0 kbdata_ tydata_ vdata_ rowsdata_ hH hodata_ rdata_ gcmp_ cpcmp_ hccmp_ K hK; exact h.elim
  | succ n ih =>
    intro data_ a_ m_ b_ cmp_ Q h H H0 kbdata_ tydata_ vdata_ rowsdata_ hH hodata_ rdata_ gcmp_ cpcmp_ hccmp_ K hK
    replace h : w_slices_symMergeCmpFunc_int64 (W_slices_symMergeCmpFunc_int64 n) data_ a_ m_ b_ cmp_ Q := h
    unfold w_slices_symMergeCmpFunc_int64 at h
    refine acalls_go fn_slices_symMergeCmpFunc_int64 rfl fun hl => ?_
    simp only [c_slices_symMergeCmpFunc_int64]
    have hL := Loc.one hH hodata_
    (try simp only [go_sem, ↓reduceIte, Nat.reduceEqDiff, reduceCtorEq, Nat.reduceAdd, Nat.reduceLeDiff, Nat.reduceSub, Nat.reduceMul, Int.reduceEq, Nat.reduceBEq])
    cases hc2 : (decide ((IntKind.i64.wrap (m_ - a_)) = 1)) with
    | true =>
      have h := h.1 hc2
      (try simp only [go_sem, ↓reduceIte, Nat.reduceEqDiff, reduceCtorEq, Nat.reduceAdd, Nat.reduceLeDiff, Nat.reduceSub, Nat.reduceMul, Int.reduceEq, Nat.reduceBEq, hc2])
      obtain ⟨I455, ⟨m0, h0⟩, hSI455⟩ := h
      refine aw_loopM hl (fun m465 T' H' => ∃ x448 x449 xs450 rows453, I455 m465 x448 x449 xs450 ∧ T' 10 = Value.int .i64 x448 ∧ T' 11 = Value.int .i64 x449 ∧ Loc H H' [.own kbdata_ tydata_ 1 vdata_ rows453] ∧ Rows (RI .i64) H xs450 rows453) m0 H0 (Hp.sub.refl _) ⟨m_, b_, data_, rowsdata_, h0, (by (try simp only [go_sem, ↓reduceIte, Nat.reduceEqDiff, reduceCtorEq, Nat.reduceAdd, Nat.reduceLeDiff, Nat.reduceSub, Nat.reduceMul, Int.reduceEq, Nat.reduceBEq, hc2]) <;> rfl), (by (try simp only [go_sem, ↓reduceIte, Nat.reduceEqDiff, reduceCtorEq, Nat.reduceAdd, Nat.reduceLeDiff, Nat.reduceSub, Nat.reduceMul, Int.reduceEq, Nat.reduceBEq, hc2]) <;> rfl), hL, rdata_⟩ ?_
      rintro m465 T458 H457 hl459 ho460 ⟨x448, x449, xs450, rows453, hI462, t463, t464, hL461, hr454⟩
      have t468 : T458 0 = vdata_ := by rw [ho460.get rfl]; (try simp only [go_sem, ↓reduceIte, Nat.reduceEqDiff, reduceCtorEq, Nat.reduceAdd, Nat.reduceLeDiff, Nat.reduceSub, Nat.reduceMul, Int.reduceEq, Nat.reduceBEq, hc2])
      have t469 : T458 1 = Value.int .i64 a_ := by rw [ho460.get rfl]; (try simp only [go_sem, ↓reduceIte, Nat.reduceEqDiff, reduceCtorEq, Nat.reduceAdd, Nat.reduceLeDiff, Nat.reduceSub, Nat.reduceMul, Int.reduceEq, Nat.reduceBEq, hc2])
      have t470 : T458 4 = Value.func (.func gcmp_) #[] cpcmp_.toArray := by rw [ho460.get rfl]; (try simp only [go_sem, ↓reduceIte, Nat.reduceEqDiff, reduceCtorEq, Nat.reduceAdd, Nat.reduceLeDiff, Nat.reduceSub, Nat.reduceMul, Int.reduceEq, Nat.reduceBEq, hc2])
      have h := hSI455 m465 x448 x449 xs450 hI462
      (try simp only [go_sem, ↓reduceIte, Nat.reduceEqDiff, reduceCtorEq, Nat.reduceAdd, Nat.reduceLeDiff, Nat.reduceSub, Nat.reduceMul, Int.reduceEq, Nat.reduceBEq, t463, t464, t468, t469, t470, hc2])
      cases hc471 : (decide (x448 < x449)) with
      | true =>
        have h := h.1 hc471
        obtain ⟨hi472, h⟩ := h
        obtain ⟨b473, c474, hkb478, hia475, hrd476, hg479, hlt480, hR477⟩ := hL461.atR 0 rfl hr454 (k := .i64) hi472
        obtain rfl : c474 = [Value.int .i64 (gt xs450 (IntKind.i64.wrap (Int.fdiv (IntKind.u64.wrap (IntKind.i64.wrap (x448 + x449))) 2)))] := hR477
        obtain ⟨hi481, h⟩ := h
        obtain ⟨b482, c483, hkb487, hia484, hrd485, hg488, hlt489, hR486⟩ := hL461.atR 0 rfl hr454 (k := .i64) hi481
        obtain rfl : c483 = [Value.int .i64 (gt xs450 a_)] := hR486
        (try simp only [go_sem, ↓reduceIte, Nat.reduceEqDiff, reduceCtorEq, Nat.reduceAdd, Nat.reduceLeDiff, Nat.reduceSub, Nat.reduceMul, Int.reduceEq, Nat.reduceBEq, t463, t464, t468, t469, t470, hc2, hc471, hia475, hia484, hrd476, hrd485])
        refine aw_callc (first := []) (cap := cpcmp_) (by (try simp only [go_sem, ↓reduceIte, Nat.reduceEqDiff, reduceCtorEq, Nat.reduceAdd, Nat.reduceLeDiff, Nat.reduceSub, Nat.reduceMul, Int.reduceEq, Nat.reduceBEq, t463, t464, t468, t469, t470, hc2, hc471, hia475, hia484, hrd476, hrd485]) <;> rfl) (by (try simp only [go_sem, ↓reduceIte, Nat.reduceEqDiff, reduceCtorEq, Nat.reduceAdd, Nat.reduceLeDiff, Nat.reduceSub, Nat.reduceMul, Int.reduceEq, Nat.reduceBEq, t463, t464, t468, t469, t470, hc2, hc471, hia475, hia484, hrd476, hrd485]) <;> rfl) (hccmp_ _ _ _ h _ hL461.sub _ fun r490 h => ?_)
        (try simp only [go_sem, ↓reduceIte, Nat.reduceEqDiff, reduceCtorEq, Nat.reduceAdd, Nat.reduceLeDiff, Nat.reduceSub, Nat.reduceMul, Int.reduceEq, Nat.reduceBEq, t463, t464, t468, t469, t470, hc2, hc471, hia475, hia484, hrd476, hrd485])
        cases hc491 : (decide (r490 < 0)) with
        | true =>
          have h := h.1 hc491
          obtain ⟨m466, hm467, h⟩ := h
          (try simp only [go_sem, ↓reduceIte, Nat.reduceEqDiff, reduceCtorEq, Nat.reduceAdd, Nat.reduceLeDiff, Nat.reduceSub, Nat.reduceMul, Int.reduceEq, Nat.reduceBEq, t463, t464, t468, t469, t470, hc2, hc471, hia475, hia484, hc491, hrd476, hrd485])
          exact ⟨m466, H457, hm467, Hp.sub.refl _, (IntKind.i64.wrap ((IntKind.i64.wrap (Int.fdiv (IntKind.u64.wrap (IntKind.i64.wrap (x448 + x449))) 2)) + 1)), x449, xs450, rows453, h, (by (try simp only [go_sem, ↓reduceIte, Nat.reduceEqDiff, reduceCtorEq, Nat.reduceAdd, Nat.reduceLeDiff, Nat.reduceSub, Nat.reduceMul, Int.reduceEq, Nat.reduceBEq, t463, t464, t468, t469, t470, hc2, hc471, hia475, hia484, hc491, hrd476, hrd485]) <;> rfl), (by (try simp only [go_sem, ↓reduceIte, Nat.reduceEqDiff, reduceCtorEq, Nat.reduceAdd, Nat.reduceLeDiff, Nat.reduceSub, Nat.reduceMul, Int.reduceEq, Nat.reduceBEq, t463, t464, t468, t469, t470, hc2, hc471, hia475, hia484, hc491, hrd476, hrd485]) <;> rfl), hL461, hr454⟩
        | false =>
          have h := h.2 hc491
          obtain ⟨m466, hm467, h⟩ := h
          (try simp only [go_sem, ↓reduceIte, Nat.reduceEqDiff, reduceCtorEq, Nat.reduceAdd, Nat.reduceLeDiff, Nat.reduceSub, Nat.reduceMul, Int.reduceEq, Nat.reduceBEq, t463, t464, t468, t469, t470, hc2, hc471, hia475, hia484, hc491, hrd476, hrd485])
          exact ⟨m466, H457, hm467, Hp.sub.refl _, x448, (IntKind.i64.wrap (Int.fdiv (IntKind.u64.wrap (IntKind.i64.wrap (x448 + x449))) 2)), xs450, rows453, h, (by (try simp only [go_sem, ↓reduceIte, Nat.reduceEqDiff, reduceCtorEq, Nat.reduceAdd, Nat.reduceLeDiff, Nat.reduceSub, Nat.reduceMul, Int.reduceEq, Nat.reduceBEq, t463, t464, t468, t469, t470, hc2, hc471, hia475, hia484, hc491, hrd476, hrd485]) <;> rfl), (by (try simp only [go_sem, ↓reduceIte, Nat.reduceEqDiff, reduceCtorEq, Nat.reduceAdd, Nat.reduceLeDiff, Nat.reduceSub, Nat.reduceMul, Int.reduceEq, Nat.reduceBEq, t463, t464, t468, t469, t470, hc2, hc471, hia475, hia484, hc491, hrd476, hrd485]) <;> rfl), hL461, hr454⟩
      | false =>
        have h := h.2 hc471
        (try simp only [go_sem, ↓reduceIte, Nat.reduceEqDiff, reduceCtorEq, Nat.reduceAdd, Nat.reduceLeDiff, Nat.reduceSub, Nat.reduceMul, Int.reduceEq, Nat.reduceBEq, t463, t464, t468, t469, t470, hc2, hc471])
        obtain ⟨I617, ⟨m0, h0⟩, hSI617⟩ := h
        refine aw_loopM hl459 (fun m626 T' H' => ∃ x611 xs612 rows615, I617 m626 x611 xs612 ∧ T' 13 = Value.int .i64 x611 ∧ Loc H H' [.own kbdata_ tydata_ 1 vdata_ rows615] ∧ Rows (RI .i64) H xs612 rows615) m0 H457 (Hp.sub.refl _) ⟨a_, xs450, rows453, h0, (by (try simp only [go_sem, ↓reduceIte, Nat.reduceEqDiff, reduceCtorEq, Nat.reduceAdd, Nat.reduceLeDiff, Nat.reduceSub, Nat.reduceMul, Int.reduceEq, Nat.reduceBEq, t463, t464, t468, t469, t470, hc2, hc471]) <;> rfl), hL461, hr454⟩ ?_
        rintro m626 T620 H619 hl621 ho622 ⟨x611, xs612, rows615, hI624, t625, hL623, hr616⟩
        have t629 : T620 0 = vdata_ := by rw [ho622.get rfl]; (try simp only [go_sem, ↓reduceIte, Nat.reduceEqDiff, reduceCtorEq, Nat.reduceAdd, Nat.reduceLeDiff, Nat.reduceSub, Nat.reduceMul, Int.reduceEq, Nat.reduceBEq, t463, t464, t468, t469, t470, hc2, hc471])
        have t630 : T620 10 = Value.int .i64 x448 := by rw [ho622.get rfl]; (try simp only [go_sem, ↓reduceIte, Nat.reduceEqDiff, reduceCtorEq, Nat.reduceAdd, Nat.reduceLeDiff, Nat.reduceSub, Nat.reduceMul, Int.reduceEq, Nat.reduceBEq, t463, t464, t468, t469, t470, hc2, hc471])
        have h := hSI617 m626 x611 xs612 hI624
        (try simp only [go_sem, ↓reduceIte, Nat.reduceEqDiff, reduceCtorEq, Nat.reduceAdd, Nat.reduceLeDiff, Nat.reduceSub, Nat.reduceMul, Int.reduceEq, Nat.reduceBEq, t625, t629, t630, hc2, hc471])
        cases hc631 : (decide (x611 < (IntKind.i64.wrap (x448 - 1)))) with
        | true =>
          have h := h.1 hc631
          obtain ⟨hi632, h⟩ := h
          obtain ⟨b633, c634, hkb638, hia635, hrd636, hg639, hlt640, hR637⟩ := hL623.atR 0 rfl hr616 (k := .i64) hi632
          obtain rfl : c634 = [Value.int .i64 (gt xs612 (IntKind.i64.wrap (x611 + 1)))] := hR637
          obtain ⟨hi641, h⟩ := h
          obtain ⟨b642, c643, hkb647, hia644, hrd645, hg648, hlt649, hR646⟩ := hL623.atR 0 rfl hr616 (k := .i64) hi641
          obtain rfl : c643 = [Value.int .i64 (gt xs612 x611)] := hR646
          (try simp only [go_sem, ↓reduceIte, Nat.reduceEqDiff, reduceCtorEq, Nat.reduceAdd, Nat.reduceLeDiff, Nat.reduceSub, Nat.reduceMul, Int.reduceEq, Nat.reduceBEq, t625, t629, t630, hc2, hc471, hc631, hia635, hia644, hrd636, hrd645])
          refine awL_wrR (sub := 0) (r' := [Value.int .i64 (gt xs612 (IntKind.i64.wrap (x611 + 1)))]) 0 hl621 hL623 rfl hkb647 hlt649 hg648 (by (try simp only [go_sem, ↓reduceIte, Nat.reduceEqDiff, reduceCtorEq, Nat.reduceAdd, Nat.reduceLeDiff, Nat.reduceSub, Nat.reduceMul, Int.reduceEq, Nat.reduceBEq, t625, t629, t630, hc2, hc471, hc631, hia635, hia644, hrd636, hrd645]) <;> rfl) rfl (by (try simp only [go_sem, ↓reduceIte, Nat.reduceEqDiff, reduceCtorEq, Nat.reduceAdd, Nat.reduceLeDiff, Nat.reduceSub, Nat.reduceMul, Int.reduceEq, Nat.reduceBEq, t625, t629, t630, hc2, hc471, hc631, hia635, hia644, hrd636, hrd645]) <;> rfl) (by (try simp only [go_sem, ↓reduceIte, Nat.reduceEqDiff, reduceCtorEq, Nat.reduceAdd, Nat.reduceLeDiff, Nat.reduceSub, Nat.reduceMul, Int.reduceEq, Nat.reduceBEq, t625, t629, t630, hc2, hc471, hc631, hia635, hia644, hrd636, hrd645]) <;> rfl) fun H650 hl651 hL652 => ?_
          have hr653 := hr616.set (x611).toNat (show (RI .i64) H (gt xs612 (IntKind.i64.wrap (x611 + 1))) [Value.int .i64 (gt xs612 (IntKind.i64.wrap (x611 + 1)))] from rfl)
          obtain ⟨xs654, hxs655⟩ : ∃ ys, ys = (xs612.set (x611).toNat (gt xs612 (IntKind.i64.wrap (x611 + 1)))) := ⟨_, rfl⟩
          rw [← hxs655] at hr653
          have h := h xs654 hxs655
          generalize (rows615.set (x611).toNat [Value.int .i64 (gt xs612 (IntKind.i64.wrap (x611 + 1)))]) = rows656 at hL652 hr653
          obtain ⟨hi657, h⟩ := h
          obtain ⟨b658, c659, hkb663, hia660, hrd661, hg664, hlt665, hR662⟩ := hL652.atR 0 rfl hr653 (k := .i64) hi657
          obtain rfl : c659 = [Value.int .i64 (gt xs654 (IntKind.i64.wrap (x611 + 1)))] := hR662
          (try simp only [go_sem, ↓reduceIte, Nat.reduceEqDiff, reduceCtorEq, Nat.reduceAdd, Nat.reduceLeDiff, Nat.reduceSub, Nat.reduceMul, Int.reduceEq, Nat.reduceBEq, t625, t629, t630, hc2, hc471, hc631, hia644, hia660, hrd661])
          refine awL_wrR (sub := 0) (r' := [Value.int .i64 (gt xs612 x611)]) 0 hl651 hL652 rfl hkb663 hlt665 hg664 (by (try simp only [go_sem, ↓reduceIte, Nat.reduceEqDiff, reduceCtorEq, Nat.reduceAdd, Nat.reduceLeDiff, Nat.reduceSub, Nat.reduceMul, Int.reduceEq, Nat.reduceBEq, t625, t629, t630, hc2, hc471, hc631, hia644, hia660, hrd661]) <;> rfl) rfl (by (try simp only [go_sem, ↓reduceIte, Nat.reduceEqDiff, reduceCtorEq, Nat.reduceAdd, Nat.reduceLeDiff, Nat.reduceSub, Nat.reduceMul, Int.reduceEq, Nat.reduceBEq, t625, t629, t630, hc2, hc471, hc631, hia644, hia660, hrd661]) <;> rfl) (by (try simp only [go_sem, ↓reduceIte, Nat.reduceEqDiff, reduceCtorEq, Nat.reduceAdd, Nat.reduceLeDiff, Nat.reduceSub, Nat.reduceMul, Int.reduceEq, Nat.reduceBEq, t625, t629, t630, hc2, hc471, hc631, hia644, hia660, hrd661]) <;> rfl) fun H666 hl667 hL668 => ?_
          have hr669 := hr653.set ((IntKind.i64.wrap (x611 + 1))).toNat (show (RI .i64) H (gt xs612 x611) [Value.int .i64 (gt xs612 x611)] from rfl)
          obtain ⟨xs670, hxs671⟩ : ∃ ys, ys = (xs654.set ((IntKind.i64.wrap (x611 + 1))).toNat (gt xs612 x611)) := ⟨_, rfl⟩
          rw [← hxs671] at hr669
          have h := h xs670 hxs671
          generalize (rows656.set ((IntKind.i64.wrap (x611 + 1))).toNat [Value.int .i64 (gt xs612 x611)]) = rows672 at hL668 hr669
          obtain ⟨m627, hm628, h⟩ := h
          (try simp only [go_sem, ↓reduceIte, Nat.reduceEqDiff, reduceCtorEq, Nat.reduceAdd, Nat.reduceLeDiff, Nat.reduceSub, Nat.reduceMul, Int.reduceEq, Nat.reduceBEq, t625, t629, t630, hc2, hc471, hc631, hia644, hia660])
          exact ⟨m627, H666, hm628, Hp.sub.refl _, (IntKind.i64.wrap (x611 + 1)), xs670, rows672, h, (by (try simp only [go_sem, ↓reduceIte, Nat.reduceEqDiff, reduceCtorEq, Nat.reduceAdd, Nat.reduceLeDiff, Nat.reduceSub, Nat.reduceMul, Int.reduceEq, Nat.reduceBEq, t625, t629, t630, hc2, hc471, hc631, hia644, hia660]) <;> rfl), hL668, hr669⟩
        | false =>
          have h := h.2 hc631
          (try simp only [go_sem, ↓reduceIte, Nat.reduceEqDiff, reduceCtorEq, Nat.reduceAdd, Nat.reduceLeDiff, Nat.reduceSub, Nat.reduceMul, Int.reduceEq, Nat.reduceBEq, t625, t629, t630, hc2, hc471, hc631])
          first | exact retQ_n0 H619 (Hp.sub.refl _) (hK _ h H619 rows615 hl621 (hL623.sel [0] (by decide)) hr616) | exact retQ_r0 H619 (Hp.sub.refl _) (hK _ h H619 rows615 hl621 (hL623.sel [0] (by decide)) hr616)
    | false =>
      have h := h.2 hc2
      (try simp only [go_sem, ↓reduceIte, Nat.reduceEqDiff, reduceCtorEq, Nat.reduceAdd, Nat.reduceLeDiff, Nat.reduceSub, Nat.reduceMul, Int.reduceEq, Nat.reduceBEq, hc2])
      cases hc673 : (decide ((IntKind.i64.wrap (b_ - m_)) = 1)) with
      | true =>
        have h := h.1 hc673
        (try simp only [go_sem, ↓reduceIte, Nat.reduceEqDiff, reduceCtorEq, Nat.reduceAdd, Nat.reduceLeDiff, Nat.reduceSub, Nat.reduceMul, Int.reduceEq, Nat.reduceBEq, hc2, hc673])
        obtain ⟨I1126, ⟨m0, h0⟩, hSI1126⟩ := h
        refine aw_loopM hl (fun m1136 T' H' => ∃ x1119 x1120 xs1121 rows1124, I1126 m1136 x1119 x1120 xs1121 ∧ T' 14 = Value.int .i64 x1119 ∧ T' 15 = Value.int .i64 x1120 ∧ Loc H H' [.own kbdata_ tydata_ 1 vdata_ rows1124] ∧ Rows (RI .i64) H xs1121 rows1124) m0 H0 (Hp.sub.refl _) ⟨a_, m_, data_, rowsdata_, h0, (by (try simp only [go_sem, ↓reduceIte, Nat.reduceEqDiff, reduceCtorEq, Nat.reduceAdd, Nat.reduceLeDiff, Nat.reduceSub, Nat.reduceMul, Int.reduceEq, Nat.reduceBEq, hc2, hc673]) <;> rfl), (by (try simp only [go_sem, ↓reduceIte, Nat.reduceEqDiff, reduceCtorEq, Nat.reduceAdd, Nat.reduceLeDiff, Nat.reduceSub, Nat.reduceMul, Int.reduceEq, Nat.reduceBEq, hc2, hc673]) <;> rfl), hL, rdata_⟩ ?_
        rintro m1136 T1129 H1128 hl1130 ho1131 ⟨x1119, x1120, xs1121, rows1124, hI1133, t1134, t1135, hL1132, hr1125⟩
        have t1139 : T1129 0 = vdata_ := by rw [ho1131.get rfl]; (try simp only [go_sem, ↓reduceIte, Nat.reduceEqDiff, reduceCtorEq, Nat.reduceAdd, Nat.reduceLeDiff, Nat.reduceSub, Nat.reduceMul, Int.reduceEq, Nat.reduceBEq, hc2, hc673])
        have t1140 : T1129 2 = Value.int .i64 m_ := by rw [ho1131.get rfl]; (try simp only [go_sem, ↓reduceIte, Nat.reduceEqDiff, reduceCtorEq, Nat.reduceAdd, Nat.reduceLeDiff, Nat.reduceSub, Nat.reduceMul, Int.reduceEq, Nat.reduceBEq, hc2, hc673])
        have t1141 : T1129 4 = Value.func (.func gcmp_) #[] cpcmp_.toArray := by rw [ho1131.get rfl]; (try simp only [go_sem, ↓reduceIte, Nat.reduceEqDiff, reduceCtorEq, Nat.reduceAdd, Nat.reduceLeDiff, Nat.reduceSub, Nat.reduceMul, Int.reduceEq, Nat.reduceBEq, hc2, hc673])
        have h := hSI1126 m1136 x1119 x1120 xs1121 hI1133
        (try simp only [go_sem, ↓reduceIte, Nat.reduceEqDiff, reduceCtorEq, Nat.reduceAdd, Nat.reduceLeDiff, Nat.reduceSub, Nat.reduceMul, Int.reduceEq, Nat.reduceBEq, t1134, t1135, t1139, t1140, t1141, hc2, hc673])
        cases hc1142 : (decide (x1119 < x1120)) with
        | true =>
          have h := h.1 hc1142
          obtain ⟨hi1143, h⟩ := h
          obtain ⟨b1144, c1145, hkb1149, hia1146, hrd1147, hg1150, hlt1151, hR1148⟩ := hL1132.atR 0 rfl hr1125 (k := .i64) hi1143
          obtain rfl : c1145 = [Value.int .i64 (gt xs1121 m_)] := hR1148
          obtain ⟨hi1152, h⟩ := h
          obtain ⟨b1153, c1154, hkb1158, hia1155, hrd1156, hg1159, hlt1160, hR1157⟩ := hL1132.atR 0 rfl hr1125 (k := .i64) hi1152
          obtain rfl : c1154 = [Value.int .i64 (gt xs1121 (IntKind.i64.wrap (Int.fdiv (IntKind.u64.wrap (IntKind.i64.wrap (x1119 + x1120))) 2)))] := hR1157
          (try simp only [go_sem, ↓reduceIte, Nat.reduceEqDiff, reduceCtorEq, Nat.reduceAdd, Nat.reduceLeDiff, Nat.reduceSub, Nat.reduceMul, Int.reduceEq, Nat.reduceBEq, t1134, t1135, t1139, t1140, t1141, hc2, hc673, hc1142, hia1146, hia1155, hrd1147, hrd1156])
          refine aw_callc (first := []) (cap := cpcmp_) (by (try simp only [go_sem, ↓reduceIte, Nat.reduceEqDiff, reduceCtorEq, Nat.reduceAdd, Nat.reduceLeDiff, Nat.reduceSub, Nat.reduceMul, Int.reduceEq, Nat.reduceBEq, t1134, t1135, t1139, t1140, t1141, hc2, hc673, hc1142, hia1146, hia1155, hrd1147, hrd1156]) <;> rfl) (by (try simp only [go_sem, ↓reduceIte, Nat.reduceEqDiff, reduceCtorEq, Nat.reduceAdd, Nat.reduceLeDiff, Nat.reduceSub, Nat.reduceMul, Int.reduceEq, Nat.reduceBEq, t1134, t1135, t1139, t1140, t1141, hc2, hc673, hc1142, hia1146, hia1155, hrd1147, hrd1156]) <;> rfl) (hccmp_ _ _ _ h _ hL1132.sub _ fun r1161 h => ?_)
          (try simp only [go_sem, ↓reduceIte, Nat.reduceEqDiff, reduceCtorEq, Nat.reduceAdd, Nat.reduceLeDiff, Nat.reduceSub, Nat.reduceMul, Int.reduceEq, Nat.reduceBEq, t1134, t1135, t1139, t1140, t1141, hc2, hc673, hc1142, hia1146, hia1155, hrd1147, hrd1156])
          cases hc1162 : (!(decide (r1161 < 0))) with
          | true =>
            have h := h.1 hc1162
            obtain ⟨m1137, hm1138, h⟩ := h
            (try simp only [go_sem, ↓reduceIte, Nat.reduceEqDiff, reduceCtorEq, Nat.reduceAdd, Nat.reduceLeDiff, Nat.reduceSub, Nat.reduceMul, Int.reduceEq, Nat.reduceBEq, t1134, t1135, t1139, t1140, t1141, hc2, hc673, hc1142, hia1146, hia1155, hc1162, hrd1147, hrd1156])
            exact ⟨m1137, H1128, hm1138, Hp.sub.refl _, (IntKind.i64.wrap ((IntKind.i64.wrap (Int.fdiv (IntKind.u64.wrap (IntKind.i64.wrap (x1119 + x1120))) 2)) + 1)), x1120, xs1121, rows1124, h, (by (try simp only [go_sem, ↓reduceIte, Nat.reduceEqDiff, reduceCtorEq, Nat.reduceAdd, Nat.reduceLeDiff, Nat.reduceSub, Nat.reduceMul, Int.reduceEq, Nat.reduceBEq, t1134, t1135, t1139, t1140, t1141, hc2, hc673, hc1142, hia1146, hia1155, hc1162, hrd1147, hrd1156]) <;> rfl), (by (try simp only [go_sem, ↓reduceIte, Nat.reduceEqDiff, reduceCtorEq, Nat.reduceAdd, Nat.reduceLeDiff, Nat.reduceSub, Nat.reduceMul, Int.reduceEq, Nat.reduceBEq, t1134, t1135, t1139, t1140, t1141, hc2, hc673, hc1142, hia1146, hia1155, hc1162, hrd1147, hrd1156]) <;> rfl), hL1132, hr1125⟩
          | false =>
            have h := h.2 hc1162
            obtain ⟨m1137, hm1138, h⟩ := h
            (try simp only [go_sem, ↓reduceIte, Nat.reduceEqDiff, reduceCtorEq, Nat.reduceAdd, Nat.reduceLeDiff, Nat.reduceSub, Nat.reduceMul, Int.reduceEq, Nat.reduceBEq, t1134, t1135, t1139, t1140, t1141, hc2, hc673, hc1142, hia1146, hia1155, hc1162, hrd1147, hrd1156])
            exact ⟨m1137, H1128, hm1138, Hp.sub.refl _, x1119, (IntKind.i64.wrap (Int.fdiv (IntKind.u64.wrap (IntKind.i64.wrap (x1119 + x1120))) 2)), xs1121, rows1124, h, (by (try simp only [go_sem, ↓reduceIte, Nat.reduceEqDiff, reduceCtorEq, Nat.reduceAdd, Nat.reduceLeDiff, Nat.reduceSub, Nat.reduceMul, Int.reduceEq, Nat.reduceBEq, t1134, t1135, t1139, t1140, t1141, hc2, hc673, hc1142, hia1146, hia1155, hc1162, hrd1147, hrd1156]) <;> rfl), (by (try simp only [go_sem, ↓reduceIte, Nat.reduceEqDiff, reduceCtorEq, Nat.reduceAdd, Nat.reduceLeDiff, Nat.reduceSub, Nat.reduceMul, Int.reduceEq, Nat.reduceBEq, t1134, t1135, t1139, t1140, t1141, hc2, hc673, hc1142, hia1146, hia1155, hc1162, hrd1147, hrd1156]) <;> rfl), hL1132, hr1125⟩
        | false =>
          have h := h.2 hc1142
          (try simp only [go_sem, ↓reduceIte, Nat.reduceEqDiff, reduceCtorEq, Nat.reduceAdd, Nat.reduceLeDiff, Nat.reduceSub, Nat.reduceMul, Int.reduceEq, Nat.reduceBEq, t1134, t1135, t1139, t1140, t1141, hc2, hc673, hc1142])
          obtain ⟨I1288, ⟨m0, h0⟩, hSI1288⟩ := h
          refine aw_loopM hl1130 (fun m1297 T' H' => ∃ x1282 xs1283 rows1286, I1288 m1297 x1282 xs1283 ∧ T' 17 = Value.int .i64 x1282 ∧ Loc H H' [.own kbdata_ tydata_ 1 vdata_ rows1286] ∧ Rows (RI .i64) H xs1283 rows1286) m0 H1128 (Hp.sub.refl _) ⟨m_, xs1121, rows1124, h0, (by (try simp only [go_sem, ↓reduceIte, Nat.reduceEqDiff, reduceCtorEq, Nat.reduceAdd, Nat.reduceLeDiff, Nat.reduceSub, Nat.reduceMul, Int.reduceEq, Nat.reduceBEq, t1134, t1135, t1139, t1140, t1141, hc2, hc673, hc1142]) <;> rfl), hL1132, hr1125⟩ ?_
          rintro m1297 T1291 H1290 hl1292 ho1293 ⟨x1282, xs1283, rows1286, hI1295, t1296, hL1294, hr1287⟩
          have t1300 : T1291 0 = vdata_ := by rw [ho1293.get rfl]; (try simp only [go_sem, ↓reduceIte, Nat.reduceEqDiff, reduceCtorEq, Nat.reduceAdd, Nat.reduceLeDiff, Nat.reduceSub, Nat.reduceMul, Int.reduceEq, Nat.reduceBEq, t1134, t1135, t1139, t1140, t1141, hc2, hc673, hc1142])
          have t1301 : T1291 14 = Value.int .i64 x1119 := by rw [ho1293.get rfl]; (try simp only [go_sem, ↓reduceIte, Nat.reduceEqDiff, reduceCtorEq, Nat.reduceAdd, Nat.reduceLeDiff, Nat.reduceSub, Nat.reduceMul, Int.reduceEq, Nat.reduceBEq, t1134, t1135, t1139, t1140, t1141, hc2, hc673, hc1142])
          have h := hSI1288 m1297 x1282 xs1283 hI1295
          (try simp only [go_sem, ↓reduceIte, Nat.reduceEqDiff, reduceCtorEq, Nat.reduceAdd, Nat.reduceLeDiff, Nat.reduceSub, Nat.reduceMul, Int.reduceEq, Nat.reduceBEq, t1296, t1300, t1301, hc2, hc673, hc1142])
          cases hc1302 : (decide (x1282 > x1119)) with
          | true =>
            have h := h.1 hc1302
            obtain ⟨hi1303, h⟩ := h
            obtain ⟨b1304, c1305, hkb1309, hia1306, hrd1307, hg1310, hlt1311, hR1308⟩ := hL1294.atR 0 rfl hr1287 (k := .i64) hi1303
            obtain rfl : c1305 = [Value.int .i64 (gt xs1283 (IntKind.i64.wrap (x1282 - 1)))] := hR1308
            obtain ⟨hi1312, h⟩ := h
            obtain ⟨b1313, c1314, hkb1318, hia1315, hrd1316, hg1319, hlt1320, hR1317⟩ := hL1294.atR 0 rfl hr1287 (k := .i64) hi1312
            obtain rfl : c1314 = [Value.int .i64 (gt xs1283 x1282)] := hR1317
            (try simp only [go_sem, ↓reduceIte, Nat.reduceEqDiff, reduceCtorEq, Nat.reduceAdd, Nat.reduceLeDiff, Nat.reduceSub, Nat.reduceMul, Int.reduceEq, Nat.reduceBEq, t1296, t1300, t1301, hc2, hc673, hc1142, hc1302, hia1306, hia1315, hrd1307, hrd1316])
            refine awL_wrR (sub := 0) (r' := [Value.int .i64 (gt xs1283 (IntKind.i64.wrap (x1282 - 1)))]) 0 hl1292 hL1294 rfl hkb1318 hlt1320 hg1319 (by (try simp only [go_sem, ↓reduceIte, Nat.reduceEqDiff, reduceCtorEq, Nat.reduceAdd, Nat.reduceLeDiff, Nat.reduceSub, Nat.reduceMul, Int.reduceEq, Nat.reduceBEq, t1296, t1300, t1301, hc2, hc673, hc1142, hc1302, hia1306, hia1315, hrd1307, hrd1316]) <;> rfl) rfl (by (try simp only [go_sem, ↓reduceIte, Nat.reduceEqDiff, reduceCtorEq, Nat.reduceAdd, Nat.reduceLeDiff, Nat.reduceSub, Nat.reduceMul, Int.reduceEq, Nat.reduceBEq, t1296, t1300, t1301, hc2, hc673, hc1142, hc1302, hia1306, hia1315, hrd1307, hrd1316]) <;> rfl) (by (try simp only [go_sem, ↓reduceIte, Nat.reduceEqDiff, reduceCtorEq, Nat.reduceAdd, Nat.reduceLeDiff, Nat.reduceSub, Nat.reduceMul, Int.reduceEq, Nat.reduceBEq, t1296, t1300, t1301, hc2, hc673, hc1142, hc1302, hia1306, hia1315, hrd1307, hrd1316]) <;> rfl) fun H1321 hl1322 hL1323 => ?_
            have hr1324 := hr1287.set (x1282).toNat (show (RI .i64) H (gt xs1283 (IntKind.i64.wrap (x1282 - 1))) [Value.int .i64 (gt xs1283 (IntKind.i64.wrap (x1282 - 1)))] from rfl)
            obtain ⟨xs1325, hxs1326⟩ : ∃ ys, ys = (xs1283.set (x1282).toNat (gt xs1283 (IntKind.i64.wrap (x1282 - 1)))) := ⟨_, rfl⟩
            rw [← hxs1326] at hr1324
            have h := h xs1325 hxs1326
            generalize (rows1286.set (x1282).toNat [Value.int .i64 (gt xs1283 (IntKind.i64.wrap (x1282 - 1)))]) = rows1327 at hL1323 hr1324
            obtain ⟨hi1328, h⟩ := h
            obtain ⟨b1329, c1330, hkb1334, hia1331, hrd1332, hg1335, hlt1336, hR1333⟩ := hL1323.atR 0 rfl hr1324 (k := .i64) hi1328
            obtain rfl : c1330 = [Value.int .i64 (gt xs1325 (IntKind.i64.wrap (x1282 - 1)))] := hR1333
            (try simp only [go_sem, ↓reduceIte, Nat.reduceEqDiff, reduceCtorEq, Nat.reduceAdd, Nat.reduceLeDiff, Nat.reduceSub, Nat.reduceMul, Int.reduceEq, Nat.reduceBEq, t1296, t1300, t1301, hc2, hc673, hc1142, hc1302, hia1315, hia1331, hrd1332])
            refine awL_wrR (sub := 0) (r' := [Value.int .i64 (gt xs1283 x1282)]) 0 hl1322 hL1323 rfl hkb1334 hlt1336 hg1335 (by (try simp only [go_sem, ↓reduceIte, Nat.reduceEqDiff, reduceCtorEq, Nat.reduceAdd, Nat.reduceLeDiff, Nat.reduceSub, Nat.reduceMul, Int.reduceEq, Nat.reduceBEq, t1296, t1300, t1301, hc2, hc673, hc1142, hc1302, hia1315, hia1331, hrd1332]) <;> rfl) rfl (by (try simp only [go_sem, ↓reduceIte, Nat.reduceEqDiff, reduceCtorEq, Nat.reduceAdd, Nat.reduceLeDiff, Nat.reduceSub, Nat.reduceMul, Int.reduceEq, Nat.reduceBEq, t1296, t1300, t1301, hc2, hc673, hc1142, hc1302, hia1315, hia1331, hrd1332]) <;> rfl) (by (try simp only [go_sem, ↓reduceIte, Nat.reduceEqDiff, reduceCtorEq, Nat.reduceAdd, Nat.reduceLeDiff, Nat.reduceSub, Nat.reduceMul, Int.reduceEq, Nat.reduceBEq, t1296, t1300, t1301, hc2, hc673, hc1142, hc1302, hia1315, hia1331, hrd1332]) <;> rfl) fun H1337 hl1338 hL1339 => ?_
            have hr1340 := hr1324.set ((IntKind.i64.wrap (x1282 - 1))).toNat (show (RI .i64) H (gt xs1283 x1282) [Value.int .i64 (gt xs1283 x1282)] from rfl)
            obtain ⟨xs1341, hxs1342⟩ : ∃ ys, ys = (xs1325.set ((IntKind.i64.wrap (x1282 - 1))).toNat (gt xs1283 x1282)) := ⟨_, rfl⟩
            rw [← hxs1342] at hr1340
            have h := h xs1341 hxs1342
            generalize (rows1327.set ((IntKind.i64.wrap (x1282 - 1))).toNat [Value.int .i64 (gt xs1283 x1282)]) = rows1343 at hL1339 hr1340
            obtain ⟨m1298, hm1299, h⟩ := h
            (try simp only [go_sem, ↓reduceIte, Nat.reduceEqDiff, reduceCtorEq, Nat.reduceAdd, Nat.reduceLeDiff, Nat.reduceSub, Nat.reduceMul, Int.reduceEq, Nat.reduceBEq, t1296, t1300, t1301, hc2, hc673, hc1142, hc1302, hia1315, hia1331])
            exact ⟨m1298, H1337, hm1299, Hp.sub.refl _, (IntKind.i64.wrap (x1282 - 1)), xs1341, rows1343, h, (by (try simp only [go_sem, ↓reduceIte, Nat.reduceEqDiff, reduceCtorEq, Nat.reduceAdd, Nat.reduceLeDiff, Nat.reduceSub, Nat.reduceMul, Int.reduceEq, Nat.reduceBEq, t1296, t1300, t1301, hc2, hc673, hc1142, hc1302, hia1315, hia1331]) <;> rfl), hL1339, hr1340⟩
          | false =>
            have h := h.2 hc1302
            (try simp only [go_sem, ↓reduceIte, Nat.reduceEqDiff, reduceCtorEq, Nat.reduceAdd, Nat.reduceLeDiff, Nat.reduceSub, Nat.reduceMul, Int.reduceEq, Nat.reduceBEq, t1296, t1300, t1301, hc2, hc673, hc1142, hc1302])
            first | exact retQ_n0 H1290 (Hp.sub.refl _) (hK _ h H1290 rows1286 hl1292 (hL1294.sel [0] (by decide)) hr1287) | exact retQ_r0 H1290 (Hp.sub.refl _) (hK _ h H1290 rows1286 hl1292 (hL1294.sel [0] (by decide)) hr1287)
      | false =>
        have h := h.2 hc673
        (try simp only [go_sem, ↓reduceIte, Nat.reduceEqDiff, reduceCtorEq, Nat.reduceAdd, Nat.reduceLeDiff, Nat.reduceSub, Nat.reduceMul, Int.reduceEq, Nat.reduceBEq, hc2, hc673])
        obtain ⟨k1346, hk1353, hk1346⟩ := h
        refine aw_cond_join (fun T' H' => ∃ x1344 x1345, k1346 x1344 x1345 ∧ T' 20 = Value.int .i64 x1344 ∧ T' 21 = Value.int .i64 x1345 ∧ Loc H H' [.own kbdata_ tydata_ 1 vdata_ rowsdata_]) hl ?_ (show ev _ _ = .bool (decide (m_ > (IntKind.i64.wrap (Int.fdiv (IntKind.u64.wrap (IntKind.i64.wrap (a_ + b_))) 2)))) from (by (try simp only [go_sem, ↓reduceIte, Nat.reduceEqDiff, reduceCtorEq, Nat.reduceAdd, Nat.reduceLeDiff, Nat.reduceSub, Nat.reduceMul, Int.reduceEq, Nat.reduceBEq, hc2, hc673]) <;> rfl)) (fun hc1352 => ?_) (fun hc1352 => ?_)
        · rintro T1348 H1347 hl1349 ho1350 ⟨x1344, x1345, hI1355, t1356, t1357, hL1351⟩
          have h := hk1353 _ _ hI1355
          have t1358 : T1348 0 = vdata_ := by rw [ho1350.get rfl]; (try simp only [go_sem, ↓reduceIte, Nat.reduceEqDiff, reduceCtorEq, Nat.reduceAdd, Nat.reduceLeDiff, Nat.reduceSub, Nat.reduceMul, Int.reduceEq, Nat.reduceBEq, hc2, hc673])
          have t1359 : T1348 1 = Value.int .i64 a_ := by rw [ho1350.get rfl]; (try simp only [go_sem, ↓reduceIte, Nat.reduceEqDiff, reduceCtorEq, Nat.reduceAdd, Nat.reduceLeDiff, Nat.reduceSub, Nat.reduceMul, Int.reduceEq, Nat.reduceBEq, hc2, hc673])
          have t1360 : T1348 2 = Value.int .i64 m_ := by rw [ho1350.get rfl]; (try simp only [go_sem, ↓reduceIte, Nat.reduceEqDiff, reduceCtorEq, Nat.reduceAdd, Nat.reduceLeDiff, Nat.reduceSub, Nat.reduceMul, Int.reduceEq, Nat.reduceBEq, hc2, hc673])
          have t1361 : T1348 3 = Value.int .i64 b_ := by rw [ho1350.get rfl]; (try simp only [go_sem, ↓reduceIte, Nat.reduceEqDiff, reduceCtorEq, Nat.reduceAdd, Nat.reduceLeDiff, Nat.reduceSub, Nat.reduceMul, Int.reduceEq, Nat.reduceBEq, hc2, hc673])
          have t1362 : T1348 4 = Value.func (.func gcmp_) #[] cpcmp_.toArray := by rw [ho1350.get rfl]; (try simp only [go_sem, ↓reduceIte, Nat.reduceEqDiff, reduceCtorEq, Nat.reduceAdd, Nat.reduceLeDiff, Nat.reduceSub, Nat.reduceMul, Int.reduceEq, Nat.reduceBEq, hc2, hc673])
          have t1363 : T1348 18 = Value.int .i64 (IntKind.i64.wrap (Int.fdiv (IntKind.u64.wrap (IntKind.i64.wrap (a_ + b_))) 2)) := by rw [ho1350.get rfl]; (try simp only [go_sem, ↓reduceIte, Nat.reduceEqDiff, reduceCtorEq, Nat.reduceAdd, Nat.reduceLeDiff, Nat.reduceSub, Nat.reduceMul, Int.reduceEq, Nat.reduceBEq, hc2, hc673])
          have t1364 : T1348 19 = Value.int .i64 (IntKind.i64.wrap ((IntKind.i64.wrap (Int.fdiv (IntKind.u64.wrap (IntKind.i64.wrap (a_ + b_))) 2)) + m_)) := by rw [ho1350.get rfl]; (try simp only [go_sem, ↓reduceIte, Nat.reduceEqDiff, reduceCtorEq, Nat.reduceAdd, Nat.reduceLeDiff, Nat.reduceSub, Nat.reduceMul, Int.reduceEq, Nat.reduceBEq, hc2, hc673])
          (try simp only [go_sem, ↓reduceIte, Nat.reduceEqDiff, reduceCtorEq, Nat.reduceAdd, Nat.reduceLeDiff, Nat.reduceSub, Nat.reduceMul, Int.reduceEq, Nat.reduceBEq, t1356, t1357, t1358, t1359, t1360, t1361, t1362, t1363, t1364, hc2, hc673])
          obtain ⟨I1743, ⟨m0, h0⟩, hSI1743⟩ := h
          refine aw_loopM hl1349 (fun m1753 T' H' => ∃ x1736 x1737 xs1738 rows1741, I1743 m1753 x1736 x1737 xs1738 ∧ T' 20 = Value.int .i64 x1736 ∧ T' 21 = Value.int .i64 x1737 ∧ Loc H H' [.own kbdata_ tydata_ 1 vdata_ rows1741] ∧ Rows (RI .i64) H xs1738 rows1741) m0 H1347 (Hp.sub.refl _) ⟨x1344, x1345, data_, rowsdata_, h0, (by (try simp only [go_sem, ↓reduceIte, Nat.reduceEqDiff, reduceCtorEq, Nat.reduceAdd, Nat.reduceLeDiff, Nat.reduceSub, Nat.reduceMul, Int.reduceEq, Nat.reduceBEq, t1356, t1357, t1358, t1359, t1360, t1361, t1362, t1363, t1364, hc2, hc673]) <;> rfl), (by (try simp only [go_sem, ↓reduceIte, Nat.reduceEqDiff, reduceCtorEq, Nat.reduceAdd, Nat.reduceLeDiff, Nat.reduceSub, Nat.reduceMul, Int.reduceEq, Nat.reduceBEq, t1356, t1357, t1358, t1359, t1360, t1361, t1362, t1363, t1364, hc2, hc673]) <;> rfl), hL1351, rdata_⟩ ?_
          rintro m1753 T1746 H1745 hl1747 ho1748 ⟨x1736, x1737, xs1738, rows1741, hI1750, t1751, t1752, hL1749, hr1742⟩
          have t1756 : T1746 0 = vdata_ := by rw [ho1748.get rfl]; (try simp only [go_sem, ↓reduceIte, Nat.reduceEqDiff, reduceCtorEq, Nat.reduceAdd, Nat.reduceLeDiff, Nat.reduceSub, Nat.reduceMul, Int.reduceEq, Nat.reduceBEq, t1356, t1357, t1358, t1359, t1360, t1361, t1362, t1363, t1364, hc2, hc673])
          have t1757 : T1746 1 = Value.int .i64 a_ := by rw [ho1748.get rfl]; (try simp only [go_sem, ↓reduceIte, Nat.reduceEqDiff, reduceCtorEq, Nat.reduceAdd, Nat.reduceLeDiff, Nat.reduceSub, Nat.reduceMul, Int.reduceEq, Nat.reduceBEq, t1356, t1357, t1358, t1359, t1360, t1361, t1362, t1363, t1364, hc2, hc673])
          have t1758 : T1746 2 = Value.int .i64 m_ := by rw [ho1748.get rfl]; (try simp only [go_sem, ↓reduceIte, Nat.reduceEqDiff, reduceCtorEq, Nat.reduceAdd, Nat.reduceLeDiff, Nat.reduceSub, Nat.reduceMul, Int.reduceEq, Nat.reduceBEq, t1356, t1357, t1358, t1359, t1360, t1361, t1362, t1363, t1364, hc2, hc673])
          have t1759 : T1746 3 = Value.int .i64 b_ := by rw [ho1748.get rfl]; (try simp only [go_sem, ↓reduceIte, Nat.reduceEqDiff, reduceCtorEq, Nat.reduceAdd, Nat.reduceLeDiff, Nat.reduceSub, Nat.reduceMul, Int.reduceEq, Nat.reduceBEq, t1356, t1357, t1358, t1359, t1360, t1361, t1362, t1363, t1364, hc2, hc673])
          have t1760 : T1746 4 = Value.func (.func gcmp_) #[] cpcmp_.toArray := by rw [ho1748.get rfl]; (try simp only [go_sem, ↓reduceIte, Nat.reduceEqDiff, reduceCtorEq, Nat.reduceAdd, Nat.reduceLeDiff, Nat.reduceSub, Nat.reduceMul, Int.reduceEq, Nat.reduceBEq, t1356, t1357, t1358, t1359, t1360, t1361, t1362, t1363, t1364, hc2, hc673])
          have t1761 : T1746 18 = Value.int .i64 (IntKind.i64.wrap (Int.fdiv (IntKind.u64.wrap (IntKind.i64.wrap (a_ + b_))) 2)) := by rw [ho1748.get rfl]; (try simp only [go_sem, ↓reduceIte, Nat.reduceEqDiff, reduceCtorEq, Nat.reduceAdd, Nat.reduceLeDiff, Nat.reduceSub, Nat.reduceMul, Int.reduceEq, Nat.reduceBEq, t1356, t1357, t1358, t1359, t1360, t1361, t1362, t1363, t1364, hc2, hc673])
          have t1762 : T1746 19 = Value.int .i64 (IntKind.i64.wrap ((IntKind.i64.wrap (Int.fdiv (IntKind.u64.wrap (IntKind.i64.wrap (a_ + b_))) 2)) + m_)) := by rw [ho1748.get rfl]; (try simp only [go_sem, ↓reduceIte, Nat.reduceEqDiff, reduceCtorEq, Nat.reduceAdd, Nat.reduceLeDiff, Nat.reduceSub, Nat.reduceMul, Int.reduceEq, Nat.reduceBEq, t1356, t1357, t1358, t1359, t1360, t1361, t1362, t1363, t1364, hc2, hc673])
          have t1763 : T1746 22 = Value.int .i64 (IntKind.i64.wrap ((IntKind.i64.wrap ((IntKind.i64.wrap (Int.fdiv (IntKind.u64.wrap (IntKind.i64.wrap (a_ + b_))) 2)) + m_)) - 1)) := by rw [ho1748.get rfl]; (try simp only [go_sem, ↓reduceIte, Nat.reduceEqDiff, reduceCtorEq, Nat.reduceAdd, Nat.reduceLeDiff, Nat.reduceSub, Nat.reduceMul, Int.reduceEq, Nat.reduceBEq, t1356, t1357, t1358, t1359, t1360, t1361, t1362, t1363, t1364, hc2, hc673])
          have h := hSI1743 m1753 x1736 x1737 xs1738 hI1750
          (try simp only [go_sem, ↓reduceIte, Nat.reduceEqDiff, reduceCtorEq, Nat.reduceAdd, Nat.reduceLeDiff, Nat.reduceSub, Nat.reduceMul, Int.reduceEq, Nat.reduceBEq, t1751, t1752, t1756, t1757, t1758, t1759, t1760, t1761, t1762, t1763, hc2, hc673])
          cases hc1764 : (decide (x1736 < x1737)) with
          | true =>
            have h := h.1 hc1764
            (try simp only [go_sem, ↓reduceIte, Nat.reduceEqDiff, reduceCtorEq, Nat.reduceAdd, Nat.reduceLeDiff, Nat.reduceSub, Nat.reduceMul, Int.reduceEq, Nat.reduceBEq, t1751, t1752, t1756, t1757, t1758, t1759, t1760, t1761, t1762, t1763, hc2, hc673, hc1764])
            obtain ⟨z1765, hz1766⟩ : ∃ z, z = (IntKind.i64.wrap ((IntKind.i64.wrap ((IntKind.i64.wrap ((IntKind.i64.wrap (Int.fdiv (IntKind.u64.wrap (IntKind.i64.wrap (a_ + b_))) 2)) + m_)) - 1)) - (IntKind.i64.wrap (Int.fdiv (IntKind.u64.wrap (IntKind.i64.wrap (x1736 + x1737))) 2)))) := ⟨_, rfl⟩
            simp only [← hz1766]
            have h := h z1765 hz1766
            obtain ⟨hi1767, h⟩ := h
            obtain ⟨b1768, c1769, hkb1773, hia1770, hrd1771, hg1774, hlt1775, hR1772⟩ := hL1749.atR 0 rfl hr1742 (k := .i64) hi1767
            obtain rfl : c1769 = [Value.int .i64 (gt xs1738 z1765)] := hR1772
            obtain ⟨hi1776, h⟩ := h
            obtain ⟨b1777, c1778, hkb1782, hia1779, hrd1780, hg1783, hlt1784, hR1781⟩ := hL1749.atR 0 rfl hr1742 (k := .i64) hi1776
            obtain rfl : c1778 = [Value.int .i64 (gt xs1738 (IntKind.i64.wrap (Int.fdiv (IntKind.u64.wrap (IntKind.i64.wrap (x1736 + x1737))) 2)))] := hR1781
            (try simp only [go_sem, ↓reduceIte, Nat.reduceEqDiff, reduceCtorEq, Nat.reduceAdd, Nat.reduceLeDiff, Nat.reduceSub, Nat.reduceMul, Int.reduceEq, Nat.reduceBEq, t1751, t1752, t1756, t1757, t1758, t1759, t1760, t1761, t1762, t1763, hc2, hc673, hc1764, hia1770, hia1779, hrd1771, hrd1780])
            refine aw_callc (first := []) (cap := cpcmp_) (by (try simp only [go_sem, ↓reduceIte, Nat.reduceEqDiff, reduceCtorEq, Nat.reduceAdd, Nat.reduceLeDiff, Nat.reduceSub, Nat.reduceMul, Int.reduceEq, Nat.reduceBEq, t1751, t1752, t1756, t1757, t1758, t1759, t1760, t1761, t1762, t1763, hc2, hc673, hc1764, hia1770, hia1779, hrd1771, hrd1780]) <;> rfl) (by (try simp only [go_sem, ↓reduceIte, Nat.reduceEqDiff, reduceCtorEq, Nat.reduceAdd, Nat.reduceLeDiff, Nat.reduceSub, Nat.reduceMul, Int.reduceEq, Nat.reduceBEq, t1751, t1752, t1756, t1757, t1758, t1759, t1760, t1761, t1762, t1763, hc2, hc673, hc1764, hia1770, hia1779, hrd1771, hrd1780]) <;> rfl) (hccmp_ _ _ _ h _ hL1749.sub _ fun r1785 h => ?_)
            (try simp only [go_sem, ↓reduceIte, Nat.reduceEqDiff, reduceCtorEq, Nat.reduceAdd, Nat.reduceLeDiff, Nat.reduceSub, Nat.reduceMul, Int.reduceEq, Nat.reduceBEq, t1751, t1752, t1756, t1757, t1758, t1759, t1760, t1761, t1762, t1763, hc2, hc673, hc1764, hia1770, hia1779, hrd1771, hrd1780])
            cases hc1786 : (!(decide (r1785 < 0))) with
            | true =>
              have h := h.1 hc1786
              obtain ⟨m1754, hm1755, h⟩ := h
              (try simp only [go_sem, ↓reduceIte, Nat.reduceEqDiff, reduceCtorEq, Nat.reduceAdd, Nat.reduceLeDiff, Nat.reduceSub, Nat.reduceMul, Int.reduceEq, Nat.reduceBEq, t1751, t1752, t1756, t1757, t1758, t1759, t1760, t1761, t1762, t1763, hc2, hc673, hc1764, hia1770, hia1779, hc1786, hrd1771, hrd1780])
              exact ⟨m1754, H1745, hm1755, Hp.sub.refl _, (IntKind.i64.wrap ((IntKind.i64.wrap (Int.fdiv (IntKind.u64.wrap (IntKind.i64.wrap (x1736 + x1737))) 2)) + 1)), x1737, xs1738, rows1741, h, (by (try simp only [go_sem, ↓reduceIte, Nat.reduceEqDiff, reduceCtorEq, Nat.reduceAdd, Nat.reduceLeDiff, Nat.reduceSub, Nat.reduceMul, Int.reduceEq, Nat.reduceBEq, t1751, t1752, t1756, t1757, t1758, t1759, t1760, t1761, t1762, t1763, hc2, hc673, hc1764, hia1770, hia1779, hc1786, hrd1771, hrd1780]) <;> rfl), (by (try simp only [go_sem, ↓reduceIte, Nat.reduceEqDiff, reduceCtorEq, Nat.reduceAdd, Nat.reduceLeDiff, Nat.reduceSub, Nat.reduceMul, Int.reduceEq, Nat.reduceBEq, t1751, t1752, t1756, t1757, t1758, t1759, t1760, t1761, t1762, t1763, hc2, hc673, hc1764, hia1770, hia1779, hc1786, hrd1771, hrd1780]) <;> rfl), hL1749, hr1742⟩
            | false =>
              have h := h.2 hc1786
              obtain ⟨m1754, hm1755, h⟩ := h
              (try simp only [go_sem, ↓reduceIte, Nat.reduceEqDiff, reduceCtorEq, Nat.reduceAdd, Nat.reduceLeDiff, Nat.reduceSub, Nat.reduceMul, Int.reduceEq, Nat.reduceBEq, t1751, t1752, t1756, t1757, t1758, t1759, t1760, t1761, t1762, t1763, hc2, hc673, hc1764, hia1770, hia1779, hc1786, hrd1771, hrd1780])
              exact ⟨m1754, H1745, hm1755, Hp.sub.refl _, x1736, (IntKind.i64.wrap (Int.fdiv (IntKind.u64.wrap (IntKind.i64.wrap (x1736 + x1737))) 2)), xs1738, rows1741, h, (by (try simp only [go_sem, ↓reduceIte, Nat.reduceEqDiff, reduceCtorEq, Nat.reduceAdd, Nat.reduceLeDiff, Nat.reduceSub, Nat.reduceMul, Int.reduceEq, Nat.reduceBEq, t1751, t1752, t1756, t1757, t1758, t1759, t1760, t1761, t1762, t1763, hc2, hc673, hc1764, hia1770, hia1779, hc1786, hrd1771, hrd1780]) <;> rfl), (by (try simp only [go_sem, ↓reduceIte, Nat.reduceEqDiff, reduceCtorEq, Nat.reduceAdd, Nat.reduceLeDiff, Nat.reduceSub, Nat.reduceMul, Int.reduceEq, Nat.reduceBEq, t1751, t1752, t1756, t1757, t1758, t1759, t1760, t1761, t1762, t1763, hc2, hc673, hc1764, hia1770, hia1779, hc1786, hrd1771, hrd1780]) <;> rfl), hL1749, hr1742⟩
          | false =>
            have h := h.2 hc1764
            (try simp only [go_sem, ↓reduceIte, Nat.reduceEqDiff, reduceCtorEq, Nat.reduceAdd, Nat.reduceLeDiff, Nat.reduceSub, Nat.reduceMul, Int.reduceEq, Nat.reduceBEq, t1751, t1752, t1756, t1757, t1758, t1759, t1760, t1761, t1762, t1763, hc2, hc673, hc1764])
            refine aw_cut 4 (fun T' H' => T' 185 = Value.bool ((decide (x1736 < m_)) && (decide (m_ < (IntKind.i64.wrap ((IntKind.i64.wrap ((IntKind.i64.wrap (Int.fdiv (IntKind.u64.wrap (IntKind.i64.wrap (a_ + b_))) 2)) + m_)) - x1736))))) ∧ H' = H1745) hl1747 rfl ?_ (fun T1788 H1789 _ ho1790 hj1791 => ?_)
            · cases hc1787 : (decide (x1736 < m_)) with
              | true =>
                simp only [opsK]
                (try simp only [go_sem, ↓reduceIte, Nat.reduceEqDiff, reduceCtorEq, Nat.reduceAdd, Nat.reduceLeDiff, Nat.reduceSub, Nat.reduceMul, Int.reduceEq, Nat.reduceBEq, t1751, t1752, t1756, t1757, t1758, t1759, t1760, t1761, t1762, t1763, hc2, hc673, hc1764, hc1787])
                exact ⟨by (try simp only [go_sem, ↓reduceIte, Nat.reduceEqDiff, reduceCtorEq, Nat.reduceAdd, Nat.reduceLeDiff, Nat.reduceSub, Nat.reduceMul, Int.reduceEq, Nat.reduceBEq, t1751, t1752, t1756, t1757, t1758, t1759, t1760, t1761, t1762, t1763, hc2, hc673, hc1764, hc1787, Bool.false_and, Bool.true_or, Bool.false_or]), rfl⟩
              | false =>
                simp only [opsK]
                (try simp only [go_sem, ↓reduceIte, Nat.reduceEqDiff, reduceCtorEq, Nat.reduceAdd, Nat.reduceLeDiff, Nat.reduceSub, Nat.reduceMul, Int.reduceEq, Nat.reduceBEq, t1751, t1752, t1756, t1757, t1758, t1759, t1760, t1761, t1762, t1763, hc2, hc673, hc1764, hc1787])
                exact ⟨by (try simp only [go_sem, ↓reduceIte, Nat.reduceEqDiff, reduceCtorEq, Nat.reduceAdd, Nat.reduceLeDiff, Nat.reduceSub, Nat.reduceMul, Int.reduceEq, Nat.reduceBEq, Bool.false_and, Bool.true_or, Bool.false_or]), rfl⟩
            obtain ⟨t1792, hH1793⟩ := hj1791
            rw [hH1793]
            have t1794 : T1788 0 = vdata_ := by rw [ho1790.get rfl]; (try simp only [go_sem, ↓reduceIte, Nat.reduceEqDiff, reduceCtorEq, Nat.reduceAdd, Nat.reduceLeDiff, Nat.reduceSub, Nat.reduceMul, Int.reduceEq, Nat.reduceBEq, t1751, t1752, t1756, t1757, t1758, t1759, t1760, t1761, t1762, t1763, hc2, hc673, hc1764])
            have t1795 : T1788 1 = Value.int .i64 a_ := by rw [ho1790.get rfl]; (try simp only [go_sem, ↓reduceIte, Nat.reduceEqDiff, reduceCtorEq, Nat.reduceAdd, Nat.reduceLeDiff, Nat.reduceSub, Nat.reduceMul, Int.reduceEq, Nat.reduceBEq, t1751, t1752, t1756, t1757, t1758, t1759, t1760, t1761, t1762, t1763, hc2, hc673, hc1764])
            have t1796 : T1788 2 = Value.int .i64 m_ := by rw [ho1790.get rfl]; (try simp only [go_sem, ↓reduceIte, Nat.reduceEqDiff, reduceCtorEq, Nat.reduceAdd, Nat.reduceLeDiff, Nat.reduceSub, Nat.reduceMul, Int.reduceEq, Nat.reduceBEq, t1751, t1752, t1756, t1757, t1758, t1759, t1760, t1761, t1762, t1763, hc2, hc673, hc1764])
            have t1797 : T1788 3 = Value.int .i64 b_ := by rw [ho1790.get rfl]; (try simp only [go_sem, ↓reduceIte, Nat.reduceEqDiff, reduceCtorEq, Nat.reduceAdd, Nat.reduceLeDiff, Nat.reduceSub, Nat.reduceMul, Int.reduceEq, Nat.reduceBEq, t1751, t1752, t1756, t1757, t1758, t1759, t1760, t1761, t1762, t1763, hc2, hc673, hc1764])
            have t1798 : T1788 4 = Value.func (.func gcmp_) #[] cpcmp_.toArray := by rw [ho1790.get rfl]; (try simp only [go_sem, ↓reduceIte, Nat.reduceEqDiff, reduceCtorEq, Nat.reduceAdd, Nat.reduceLeDiff, Nat.reduceSub, Nat.reduceMul, Int.reduceEq, Nat.reduceBEq, t1751, t1752, t1756, t1757, t1758, t1759, t1760, t1761, t1762, t1763, hc2, hc673, hc1764])
            have t1799 : T1788 18 = Value.int .i64 (IntKind.i64.wrap (Int.fdiv (IntKind.u64.wrap (IntKind.i64.wrap (a_ + b_))) 2)) := by rw [ho1790.get rfl]; (try simp only [go_sem, ↓reduceIte, Nat.reduceEqDiff, reduceCtorEq, Nat.reduceAdd, Nat.reduceLeDiff, Nat.reduceSub, Nat.reduceMul, Int.reduceEq, Nat.reduceBEq, t1751, t1752, t1756, t1757, t1758, t1759, t1760, t1761, t1762, t1763, hc2, hc673, hc1764])
            have t1800 : T1788 20 = Value.int .i64 x1736 := by rw [ho1790.get rfl]; (try simp only [go_sem, ↓reduceIte, Nat.reduceEqDiff, reduceCtorEq, Nat.reduceAdd, Nat.reduceLeDiff, Nat.reduceSub, Nat.reduceMul, Int.reduceEq, Nat.reduceBEq, t1751, t1752, t1756, t1757, t1758, t1759, t1760, t1761, t1762, t1763, hc2, hc673, hc1764])
            have t1801 : T1788 24 = Value.int .i64 (IntKind.i64.wrap ((IntKind.i64.wrap ((IntKind.i64.wrap (Int.fdiv (IntKind.u64.wrap (IntKind.i64.wrap (a_ + b_))) 2)) + m_)) - x1736)) := by rw [ho1790.get rfl]; (try simp only [go_sem, ↓reduceIte, Nat.reduceEqDiff, reduceCtorEq, Nat.reduceAdd, Nat.reduceLeDiff, Nat.reduceSub, Nat.reduceMul, Int.reduceEq, Nat.reduceBEq, t1751, t1752, t1756, t1757, t1758, t1759, t1760, t1761, t1762, t1763, hc2, hc673, hc1764])
            (try simp only [go_sem, ↓reduceIte, Nat.reduceEqDiff, reduceCtorEq, Nat.reduceAdd, Nat.reduceLeDiff, Nat.reduceSub, Nat.reduceMul, Int.reduceEq, Nat.reduceBEq, t1794, t1795, t1796, t1797, t1798, t1799, t1800, t1801, t1792, hc2, hc673, hc1764])
            obtain ⟨k1816, hk1834, hk1816⟩ := h
            refine aw_cond_join (fun T' H' => ∃ xs1813 rows1814, k1816 xs1813 ∧ Loc H H' [.own kbdata_ tydata_ 1 vdata_ rows1814] ∧ Rows (RI .i64) H xs1813 rows1814) hl1747 ?_ (show ev _ _ = .bool ((decide (x1736 < m_)) && (decide (m_ < (IntKind.i64.wrap ((IntKind.i64.wrap ((IntKind.i64.wrap (Int.fdiv (IntKind.u64.wrap (IntKind.i64.wrap (a_ + b_))) 2)) + m_)) - x1736))))) from (by (try simp only [go_sem, ↓reduceIte, Nat.reduceEqDiff, reduceCtorEq, Nat.reduceAdd, Nat.reduceLeDiff, Nat.reduceSub, Nat.reduceMul, Int.reduceEq, Nat.reduceBEq, t1794, t1795, t1796, t1797, t1798, t1799, t1800, t1801, t1792, hc2, hc673, hc1764]) <;> rfl)) (fun hc1822 => ?_) (fun hc1822 => ?_)
            · rintro T1818 H1817 hl1819 ho1820 ⟨xs1813, rows1814, hI1836, hL1821, hr1815⟩
              have h := hk1834 _ hI1836
              have t1837 : T1818 0 = vdata_ := by rw [ho1820.get rfl]; (try simp only [go_sem, ↓reduceIte, Nat.reduceEqDiff, reduceCtorEq, Nat.reduceAdd, Nat.reduceLeDiff, Nat.reduceSub, Nat.reduceMul, Int.reduceEq, Nat.reduceBEq, t1794, t1795, t1796, t1797, t1798, t1799, t1800, t1801, t1792, hc2, hc673, hc1764])
              have t1838 : T1818 1 = Value.int .i64 a_ := by rw [ho1820.get rfl]; (try simp only [go_sem, ↓reduceIte, Nat.reduceEqDiff, reduceCtorEq, Nat.reduceAdd, Nat.reduceLeDiff, Nat.reduceSub, Nat.reduceMul, Int.reduceEq, Nat.reduceBEq, t1794, t1795, t1796, t1797, t1798, t1799, t1800, t1801, t1792, hc2, hc673, hc1764])
              have t1839 : T1818 3 = Value.int .i64 b_ := by rw [ho1820.get rfl]; (try simp only [go_sem, ↓reduceIte, Nat.reduceEqDiff, reduceCtorEq, Nat.reduceAdd, Nat.reduceLeDiff, Nat.reduceSub, Nat.reduceMul, Int.reduceEq, Nat.reduceBEq, t1794, t1795, t1796, t1797, t1798, t1799, t1800, t1801, t1792, hc2, hc673, hc1764])
              have t1840 : T1818 4 = Value.func (.func gcmp_) #[] cpcmp_.toArray := by rw [ho1820.get rfl]; (try simp only [go_sem, ↓reduceIte, Nat.reduceEqDiff, reduceCtorEq, Nat.reduceAdd, Nat.reduceLeDiff, Nat.reduceSub, Nat.reduceMul, Int.reduceEq, Nat.reduceBEq, t1794, t1795, t1796, t1797, t1798, t1799, t1800, t1801, t1792, hc2, hc673, hc1764])
              have t1841 : T1818 18 = Value.int .i64 (IntKind.i64.wrap (Int.fdiv (IntKind.u64.wrap (IntKind.i64.wrap (a_ + b_))) 2)) := by rw [ho1820.get rfl]; (try simp only [go_sem, ↓reduceIte, Nat.reduceEqDiff, reduceCtorEq, Nat.reduceAdd, Nat.reduceLeDiff, Nat.reduceSub, Nat.reduceMul, Int.reduceEq, Nat.reduceBEq, t1794, t1795, t1796, t1797, t1798, t1799, t1800, t1801, t1792, hc2, hc673, hc1764])
              have t1842 : T1818 20 = Value.int .i64 x1736 := by rw [ho1820.get rfl]; (try simp only [go_sem, ↓reduceIte, Nat.reduceEqDiff, reduceCtorEq, Nat.reduceAdd, Nat.reduceLeDiff, Nat.reduceSub, Nat.reduceMul, Int.reduceEq, Nat.reduceBEq, t1794, t1795, t1796, t1797, t1798, t1799, t1800, t1801, t1792, hc2, hc673, hc1764])
              have t1843 : T1818 24 = Value.int .i64 (IntKind.i64.wrap ((IntKind.i64.wrap ((IntKind.i64.wrap (Int.fdiv (IntKind.u64.wrap (IntKind.i64.wrap (a_ + b_))) 2)) + m_)) - x1736)) := by rw [ho1820.get rfl]; (try simp only [go_sem, ↓reduceIte, Nat.reduceEqDiff, reduceCtorEq, Nat.reduceAdd, Nat.reduceLeDiff, Nat.reduceSub, Nat.reduceMul, Int.reduceEq, Nat.reduceBEq, t1794, t1795, t1796, t1797, t1798, t1799, t1800, t1801, t1792, hc2, hc673, hc1764])
              (try simp only [go_sem, ↓reduceIte, Nat.reduceEqDiff, reduceCtorEq, Nat.reduceAdd, Nat.reduceLeDiff, Nat.reduceSub, Nat.reduceMul, Int.reduceEq, Nat.reduceBEq, t1837, t1838, t1839, t1840, t1841, t1842, t1843, hc2, hc673, hc1764])
              refine aw_cut 4 (fun T' H' => T' 199 = Value.bool ((decide (a_ < x1736)) && (decide (x1736 < (IntKind.i64.wrap (Int.fdiv (IntKind.u64.wrap (IntKind.i64.wrap (a_ + b_))) 2))))) ∧ H' = H1817) hl1819 rfl ?_ (fun T1845 H1846 _ ho1847 hj1848 => ?_)
              · cases hc1844 : (decide (a_ < x1736)) with
                | true =>
                  simp only [opsK]
                  (try simp only [go_sem, ↓reduceIte, Nat.reduceEqDiff, reduceCtorEq, Nat.reduceAdd, Nat.reduceLeDiff, Nat.reduceSub, Nat.reduceMul, Int.reduceEq, Nat.reduceBEq, t1837, t1838, t1839, t1840, t1841, t1842, t1843, hc2, hc673, hc1764, hc1844])
                  exact ⟨by (try simp only [go_sem, ↓reduceIte, Nat.reduceEqDiff, reduceCtorEq, Nat.reduceAdd, Nat.reduceLeDiff, Nat.reduceSub, Nat.reduceMul, Int.reduceEq, Nat.reduceBEq, t1837, t1838, t1839, t1840, t1841, t1842, t1843, hc2, hc673, hc1764, hc1844, Bool.false_and, Bool.true_or, Bool.false_or]), rfl⟩
                | false =>
                  simp only [opsK]
                  (try simp only [go_sem, ↓reduceIte, Nat.reduceEqDiff, reduceCtorEq, Nat.reduceAdd, Nat.reduceLeDiff, Nat.reduceSub, Nat.reduceMul, Int.reduceEq, Nat.reduceBEq, t1837, t1838, t1839, t1840, t1841, t1842, t1843, hc2, hc673, hc1764, hc1844])
                  exact ⟨by (try simp only [go_sem, ↓reduceIte, Nat.reduceEqDiff, reduceCtorEq, Nat.reduceAdd, Nat.reduceLeDiff, Nat.reduceSub, Nat.reduceMul, Int.reduceEq, Nat.reduceBEq, Bool.false_and, Bool.true_or, Bool.false_or]), rfl⟩
              obtain ⟨t1849, hH1850⟩ := hj1848
              rw [hH1850]
              have t1851 : T1845 0 = vdata_ := by rw [ho1847.get rfl]; (try simp only [go_sem, ↓reduceIte, Nat.reduceEqDiff, reduceCtorEq, Nat.reduceAdd, Nat.reduceLeDiff, Nat.reduceSub, Nat.reduceMul, Int.reduceEq, Nat.reduceBEq, t1837, t1838, t1839, t1840, t1841, t1842, t1843, hc2, hc673, hc1764])
              have t1852 : T1845 1 = Value.int .i64 a_ := by rw [ho1847.get rfl]; (try simp only [go_sem, ↓reduceIte, Nat.reduceEqDiff, reduceCtorEq, Nat.reduceAdd, Nat.reduceLeDiff, Nat.reduceSub, Nat.reduceMul, Int.reduceEq, Nat.reduceBEq, t1837, t1838, t1839, t1840, t1841, t1842, t1843, hc2, hc673, hc1764])
              have t1853 : T1845 3 = Value.int .i64 b_ := by rw [ho1847.get rfl]; (try simp only [go_sem, ↓reduceIte, Nat.reduceEqDiff, reduceCtorEq, Nat.reduceAdd, Nat.reduceLeDiff, Nat.reduceSub, Nat.reduceMul, Int.reduceEq, Nat.reduceBEq, t1837, t1838, t1839, t1840, t1841, t1842, t1843, hc2, hc673, hc1764])
              have t1854 : T1845 4 = Value.func (.func gcmp_) #[] cpcmp_.toArray := by rw [ho1847.get rfl]; (try simp only [go_sem, ↓reduceIte, Nat.reduceEqDiff, reduceCtorEq, Nat.reduceAdd, Nat.reduceLeDiff, Nat.reduceSub, Nat.reduceMul, Int.reduceEq, Nat.reduceBEq, t1837, t1838, t1839, t1840, t1841, t1842, t1843, hc2, hc673, hc1764])
              have t1855 : T1845 18 = Value.int .i64 (IntKind.i64.wrap (Int.fdiv (IntKind.u64.wrap (IntKind.i64.wrap (a_ + b_))) 2)) := by rw [ho1847.get rfl]; (try simp only [go_sem, ↓reduceIte, Nat.reduceEqDiff, reduceCtorEq, Nat.reduceAdd, Nat.reduceLeDiff, Nat.reduceSub, Nat.reduceMul, Int.reduceEq, Nat.reduceBEq, t1837, t1838, t1839, t1840, t1841, t1842, t1843, hc2, hc673, hc1764])
              have t1856 : T1845 20 = Value.int .i64 x1736 := by rw [ho1847.get rfl]; (try simp only [go_sem, ↓reduceIte, Nat.reduceEqDiff, reduceCtorEq, Nat.reduceAdd, Nat.reduceLeDiff, Nat.reduceSub, Nat.reduceMul, Int.reduceEq, Nat.reduceBEq, t1837, t1838, t1839, t1840, t1841, t1842, t1843, hc2, hc673, hc1764])
              have t1857 : T1845 24 = Value.int .i64 (IntKind.i64.wrap ((IntKind.i64.wrap ((IntKind.i64.wrap (Int.fdiv (IntKind.u64.wrap (IntKind.i64.wrap (a_ + b_))) 2)) + m_)) - x1736)) := by rw [ho1847.get rfl]; (try simp only [go_sem, ↓reduceIte, Nat.reduceEqDiff, reduceCtorEq, Nat.reduceAdd, Nat.reduceLeDiff, Nat.reduceSub, Nat.reduceMul, Int.reduceEq, Nat.reduceBEq, t1837, t1838, t1839, t1840, t1841, t1842, t1843, hc2, hc673, hc1764])
              (try simp only [go_sem, ↓reduceIte, Nat.reduceEqDiff, reduceCtorEq, Nat.reduceAdd, Nat.reduceLeDiff, Nat.reduceSub, Nat.reduceMul, Int.reduceEq, Nat.reduceBEq, t1851, t1852, t1853, t1854, t1855, t1856, t1857, t1849, hc2, hc673, hc1764])
              obtain ⟨k1872, hk1890, hk1872⟩ := h
              refine aw_cond_join (fun T' H' => ∃ xs1869 rows1870, k1872 xs1869 ∧ Loc H H' [.own kbdata_ tydata_ 1 vdata_ rows1870] ∧ Rows (RI .i64) H xs1869 rows1870) hl1819 ?_ (show ev _ _ = .bool ((decide (a_ < x1736)) && (decide (x1736 < (IntKind.i64.wrap (Int.fdiv (IntKind.u64.wrap (IntKind.i64.wrap (a_ + b_))) 2))))) from (by (try simp only [go_sem, ↓reduceIte, Nat.reduceEqDiff, reduceCtorEq, Nat.reduceAdd, Nat.reduceLeDiff, Nat.reduceSub, Nat.reduceMul, Int.reduceEq, Nat.reduceBEq, t1851, t1852, t1853, t1854, t1855, t1856, t1857, t1849, hc2, hc673, hc1764]) <;> rfl)) (fun hc1878 => ?_) (fun hc1878 => ?_)
              · rintro T1874 H1873 hl1875 ho1876 ⟨xs1869, rows1870, hI1892, hL1877, hr1871⟩
                have h := hk1890 _ hI1892
                have t1893 : T1874 0 = vdata_ := by rw [ho1876.get rfl]; (try simp only [go_sem, ↓reduceIte, Nat.reduceEqDiff, reduceCtorEq, Nat.reduceAdd, Nat.reduceLeDiff, Nat.reduceSub, Nat.reduceMul, Int.reduceEq, Nat.reduceBEq, t1851, t1852, t1853, t1854, t1855, t1856, t1857, t1849, hc2, hc673, hc1764])
                have t1894 : T1874 3 = Value.int .i64 b_ := by rw [ho1876.get rfl]; (try simp only [go_sem, ↓reduceIte, Nat.reduceEqDiff, reduceCtorEq, Nat.reduceAdd, Nat.reduceLeDiff, Nat.reduceSub, Nat.reduceMul, Int.reduceEq, Nat.reduceBEq, t1851, t1852, t1853, t1854, t1855, t1856, t1857, t1849, hc2, hc673, hc1764])
                have t1895 : T1874 4 = Value.func (.func gcmp_) #[] cpcmp_.toArray := by rw [ho1876.get rfl]; (try simp only [go_sem, ↓reduceIte, Nat.reduceEqDiff, reduceCtorEq, Nat.reduceAdd, Nat.reduceLeDiff, Nat.reduceSub, Nat.reduceMul, Int.reduceEq, Nat.reduceBEq, t1851, t1852, t1853, t1854, t1855, t1856, t1857, t1849, hc2, hc673, hc1764])
                have t1896 : T1874 18 = Value.int .i64 (IntKind.i64.wrap (Int.fdiv (IntKind.u64.wrap (IntKind.i64.wrap (a_ + b_))) 2)) := by rw [ho1876.get rfl]; (try simp only [go_sem, ↓reduceIte, Nat.reduceEqDiff, reduceCtorEq, Nat.reduceAdd, Nat.reduceLeDiff, Nat.reduceSub, Nat.reduceMul, Int.reduceEq, Nat.reduceBEq, t1851, t1852, t1853, t1854, t1855, t1856, t1857, t1849, hc2, hc673, hc1764])
                have t1897 : T1874 24 = Value.int .i64 (IntKind.i64.wrap ((IntKind.i64.wrap ((IntKind.i64.wrap (Int.fdiv (IntKind.u64.wrap (IntKind.i64.wrap (a_ + b_))) 2)) + m_)) - x1736)) := by rw [ho1876.get rfl]; (try simp only [go_sem, ↓reduceIte, Nat.reduceEqDiff, reduceCtorEq, Nat.reduceAdd, Nat.reduceLeDiff, Nat.reduceSub, Nat.reduceMul, Int.reduceEq, Nat.reduceBEq, t1851, t1852, t1853, t1854, t1855, t1856, t1857, t1849, hc2, hc673, hc1764])
                (try simp only [go_sem, ↓reduceIte, Nat.reduceEqDiff, reduceCtorEq, Nat.reduceAdd, Nat.reduceLeDiff, Nat.reduceSub, Nat.reduceMul, Int.reduceEq, Nat.reduceBEq, t1893, t1894, t1895, t1896, t1897, hc2, hc673, hc1764])
                obtain ⟨z1898, hz1899⟩ : ∃ z, z = (decide ((IntKind.i64.wrap (Int.fdiv (IntKind.u64.wrap (IntKind.i64.wrap (a_ + b_))) 2)) < (IntKind.i64.wrap ((IntKind.i64.wrap ((IntKind.i64.wrap (Int.fdiv (IntKind.u64.wrap (IntKind.i64.wrap (a_ + b_))) 2)) + m_)) - x1736)))) := ⟨_, rfl⟩
                simp only [← hz1899]
                have h := h z1898 hz1899
                (try simp only [go_sem, ↓reduceIte, Nat.reduceEqDiff, reduceCtorEq, Nat.reduceAdd, Nat.reduceLeDiff, Nat.reduceSub, Nat.reduceMul, Int.reduceEq, Nat.reduceBEq, t1893, t1894, t1895, t1896, t1897, hc2, hc673, hc1764])
                refine aw_cut 4 (fun T' H' => T' 213 = Value.bool (z1898 && (decide ((IntKind.i64.wrap ((IntKind.i64.wrap ((IntKind.i64.wrap (Int.fdiv (IntKind.u64.wrap (IntKind.i64.wrap (a_ + b_))) 2)) + m_)) - x1736)) < b_))) ∧ H' = H1873) hl1875 rfl ?_ (fun T1901 H1902 _ ho1903 hj1904 => ?_)
                · cases hc1900 : z1898 with
                  | true =>
                    simp only [opsK]
                    (try simp only [go_sem, ↓reduceIte, Nat.reduceEqDiff, reduceCtorEq, Nat.reduceAdd, Nat.reduceLeDiff, Nat.reduceSub, Nat.reduceMul, Int.reduceEq, Nat.reduceBEq, t1893, t1894, t1895, t1896, t1897, hc2, hc673, hc1764, hc1900])
                    exact ⟨by (try simp only [go_sem, ↓reduceIte, Nat.reduceEqDiff, reduceCtorEq, Nat.reduceAdd, Nat.reduceLeDiff, Nat.reduceSub, Nat.reduceMul, Int.reduceEq, Nat.reduceBEq, t1893, t1894, t1895, t1896, t1897, hc2, hc673, hc1764, hc1900, Bool.false_and, Bool.true_or, Bool.false_or]), rfl⟩
                  | false =>
                    simp only [opsK]
                    (try simp only [go_sem, ↓reduceIte, Nat.reduceEqDiff, reduceCtorEq, Nat.reduceAdd, Nat.reduceLeDiff, Nat.reduceSub, Nat.reduceMul, Int.reduceEq, Nat.reduceBEq, t1893, t1894, t1895, t1896, t1897, hc2, hc673, hc1764, hc1900])
                    exact ⟨by (try simp only [go_sem, ↓reduceIte, Nat.reduceEqDiff, reduceCtorEq, Nat.reduceAdd, Nat.reduceLeDiff, Nat.reduceSub, Nat.reduceMul, Int.reduceEq, Nat.reduceBEq, Bool.false_and, Bool.true_or, Bool.false_or]), rfl⟩
                obtain ⟨t1905, hH1906⟩ := hj1904
                rw [hH1906]
                have t1907 : T1901 0 = vdata_ := by rw [ho1903.get rfl]; (try simp only [go_sem, ↓reduceIte, Nat.reduceEqDiff, reduceCtorEq, Nat.reduceAdd, Nat.reduceLeDiff, Nat.reduceSub, Nat.reduceMul, Int.reduceEq, Nat.reduceBEq, t1893, t1894, t1895, t1896, t1897, hc2, hc673, hc1764])
                have t1908 : T1901 3 = Value.int .i64 b_ := by rw [ho1903.get rfl]; (try simp only [go_sem, ↓reduceIte, Nat.reduceEqDiff, reduceCtorEq, Nat.reduceAdd, Nat.reduceLeDiff, Nat.reduceSub, Nat.reduceMul, Int.reduceEq, Nat.reduceBEq, t1893, t1894, t1895, t1896, t1897, hc2, hc673, hc1764])
                have t1909 : T1901 4 = Value.func (.func gcmp_) #[] cpcmp_.toArray := by rw [ho1903.get rfl]; (try simp only [go_sem, ↓reduceIte, Nat.reduceEqDiff, reduceCtorEq, Nat.reduceAdd, Nat.reduceLeDiff, Nat.reduceSub, Nat.reduceMul, Int.reduceEq, Nat.reduceBEq, t1893, t1894, t1895, t1896, t1897, hc2, hc673, hc1764])
                have t1910 : T1901 18 = Value.int .i64 (IntKind.i64.wrap (Int.fdiv (IntKind.u64.wrap (IntKind.i64.wrap (a_ + b_))) 2)) := by rw [ho1903.get rfl]; (try simp only [go_sem, ↓reduceIte, Nat.reduceEqDiff, reduceCtorEq, Nat.reduceAdd, Nat.reduceLeDiff, Nat.reduceSub, Nat.reduceMul, Int.reduceEq, Nat.reduceBEq, t1893, t1894, t1895, t1896, t1897, hc2, hc673, hc1764])
                have t1911 : T1901 24 = Value.int .i64 (IntKind.i64.wrap ((IntKind.i64.wrap ((IntKind.i64.wrap (Int.fdiv (IntKind.u64.wrap (IntKind.i64.wrap (a_ + b_))) 2)) + m_)) - x1736)) := by rw [ho1903.get rfl]; (try simp only [go_sem, ↓reduceIte, Nat.reduceEqDiff, reduceCtorEq, Nat.reduceAdd, Nat.reduceLeDiff, Nat.reduceSub, Nat.reduceMul, Int.reduceEq, Nat.reduceBEq, t1893, t1894, t1895, t1896, t1897, hc2, hc673, hc1764])
                (try simp only [go_sem, ↓reduceIte, Nat.reduceEqDiff, reduceCtorEq, Nat.reduceAdd, Nat.reduceLeDiff, Nat.reduceSub, Nat.reduceMul, Int.reduceEq, Nat.reduceBEq, t1907, t1908, t1909, t1910, t1911, t1905, hc2, hc673, hc1764])
                cases hc1912 : (z1898 && (decide ((IntKind.i64.wrap ((IntKind.i64.wrap ((IntKind.i64.wrap (Int.fdiv (IntKind.u64.wrap (IntKind.i64.wrap (a_ + b_))) 2)) + m_)) - x1736)) < b_))) with
                | true =>
                  have h := h.1 hc1912
                  obtain ⟨hle1913, h⟩ := h
                  (try simp only [go_sem, ↓reduceIte, Nat.reduceEqDiff, reduceCtorEq, Nat.reduceAdd, Nat.reduceLeDiff, Nat.reduceSub, Nat.reduceMul, Int.reduceEq, Nat.reduceBEq, t1907, t1908, t1909, t1910, t1911, t1905, hc2, hc673, hc1764, hc1912])
                  refine aw_callL (by (try simp only [go_sem, ↓reduceIte, Nat.reduceEqDiff, reduceCtorEq, Nat.reduceAdd, Nat.reduceLeDiff, Nat.reduceSub, Nat.reduceMul, Int.reduceEq, Nat.reduceBEq, t1907, t1908, t1909, t1910, t1911, t1905, hc2, hc673, hc1764, hc1912]) <;> rfl) (by (try simp only [go_sem, ↓reduceIte, Nat.reduceEqDiff, reduceCtorEq, Nat.reduceAdd, Nat.reduceLeDiff, Nat.reduceSub, Nat.reduceMul, Int.reduceEq, Nat.reduceBEq, t1907, t1908, t1909, t1910, t1911, t1905, hc2, hc673, hc1764, hc1912]) <;> rfl) (ih h rfl (hL1877.get 0 rfl) (Rows.flat (fun _ _ hx => hx) hr1871) (fun x1914 x1915 Q' hq H1 hs K' hK' => hccmp_ x1914 x1915 Q' hq H1 ((hL1877.subm 0 rfl).trans hs) K' hK') fun  xs1921 h H1917  rows1922 _ hL1919  hr1923 hl1918 => ?_)
                  have hL1920 := hL1877.back 0 rfl (L' := []) hL1919
                  have hr1923' : Rows (RI .i64) H xs1921 rows1922 := Rows.flat (fun _ _ hx => hx) hr1923
                  (try simp only [go_sem, ↓reduceIte, Nat.reduceEqDiff, reduceCtorEq, Nat.reduceAdd, Nat.reduceLeDiff, Nat.reduceSub, Nat.reduceMul, Int.reduceEq, Nat.reduceBEq, t1907, t1908, t1909, t1910, t1911, t1905, hc2, hc673, hc1764, hc1912])
                  first | exact retQ_n0 H1917 (Hp.sub.refl _) (hK _ h H1917 rows1922 hl1918 (hL1920.sel [0] (by decide)) hr1923') | exact retQ_r0 H1917 (Hp.sub.refl _) (hK _ h H1917 rows1922 hl1918 (hL1920.sel [0] (by decide)) hr1923')
                | false =>
                  have h := h.2 hc1912
                  (try simp only [go_sem, ↓reduceIte, Nat.reduceEqDiff, reduceCtorEq, Nat.reduceAdd, Nat.reduceLeDiff, Nat.reduceSub, Nat.reduceMul, Int.reduceEq, Nat.reduceBEq, t1907, t1908, t1909, t1910, t1911, t1905, hc2, hc673, hc1764, hc1912])
                  first | exact retQ_n0 H1873 (Hp.sub.refl _) (hK _ h H1873 rows1870 hl1875 (hL1877.sel [0] (by decide)) hr1871) | exact retQ_r0 H1873 (Hp.sub.refl _) (hK _ h H1873 rows1870 hl1875 (hL1877.sel [0] (by decide)) hr1871)
              · have h := hk1872.1 hc1878
                obtain ⟨hle1879, h⟩ := h
                (try simp only [go_sem, ↓reduceIte, Nat.reduceEqDiff, reduceCtorEq, Nat.reduceAdd, Nat.reduceLeDiff, Nat.reduceSub, Nat.reduceMul, Int.reduceEq, Nat.reduceBEq, t1851, t1852, t1853, t1854, t1855, t1856, t1857, t1849, hc2, hc673, hc1764, hc1878])
                refine aw_callL (by (try simp only [go_sem, ↓reduceIte, Nat.reduceEqDiff, reduceCtorEq, Nat.reduceAdd, Nat.reduceLeDiff, Nat.reduceSub, Nat.reduceMul, Int.reduceEq, Nat.reduceBEq, t1851, t1852, t1853, t1854, t1855, t1856, t1857, t1849, hc2, hc673, hc1764, hc1878]) <;> rfl) (by (try simp only [go_sem, ↓reduceIte, Nat.reduceEqDiff, reduceCtorEq, Nat.reduceAdd, Nat.reduceLeDiff, Nat.reduceSub, Nat.reduceMul, Int.reduceEq, Nat.reduceBEq, t1851, t1852, t1853, t1854, t1855, t1856, t1857, t1849, hc2, hc673, hc1764, hc1878]) <;> rfl) (ih h rfl (hL1821.get 0 rfl) (Rows.flat (fun _ _ hx => hx) hr1815) (fun x1880 x1881 Q' hq H1 hs K' hK' => hccmp_ x1880 x1881 Q' hq H1 ((hL1821.subm 0 rfl).trans hs) K' hK') fun  xs1887 h H1883  rows1888 _ hL1885  hr1889 hl1884 => ?_)
                have hL1886 := hL1821.back 0 rfl (L' := []) hL1885
                have hr1889' : Rows (RI .i64) H xs1887 rows1888 := Rows.flat (fun _ _ hx => hx) hr1889
                (try simp only [go_sem, ↓reduceIte, Nat.reduceEqDiff, reduceCtorEq, Nat.reduceAdd, Nat.reduceLeDiff, Nat.reduceSub, Nat.reduceMul, Int.reduceEq, Nat.reduceBEq, t1851, t1852, t1853, t1854, t1855, t1856, t1857, t1849, hc2, hc673, hc1764, hc1878])
                exact ⟨xs1887, rows1888, h, hL1886, hr1889'⟩
              · have h := hk1872.2 hc1878
                (try simp only [go_sem, ↓reduceIte, Nat.reduceEqDiff, reduceCtorEq, Nat.reduceAdd, Nat.reduceLeDiff, Nat.reduceSub, Nat.reduceMul, Int.reduceEq, Nat.reduceBEq, t1851, t1852, t1853, t1854, t1855, t1856, t1857, t1849, hc2, hc673, hc1764, hc1878])
                exact ⟨xs1813, rows1814, h, hL1821, hr1815⟩
            · have h := hk1816.1 hc1822
              obtain ⟨hle1823, h⟩ := h
              (try simp only [go_sem, ↓reduceIte, Nat.reduceEqDiff, reduceCtorEq, Nat.reduceAdd, Nat.reduceLeDiff, Nat.reduceSub, Nat.reduceMul, Int.reduceEq, Nat.reduceBEq, t1794, t1795, t1796, t1797, t1798, t1799, t1800, t1801, t1792, hc2, hc673, hc1764, hc1822])
              refine aw_callL (by (try simp only [go_sem, ↓reduceIte, Nat.reduceEqDiff, reduceCtorEq, Nat.reduceAdd, Nat.reduceLeDiff, Nat.reduceSub, Nat.reduceMul, Int.reduceEq, Nat.reduceBEq, t1794, t1795, t1796, t1797, t1798, t1799, t1800, t1801, t1792, hc2, hc673, hc1764, hc1822]) <;> rfl) (by (try simp only [go_sem, ↓reduceIte, Nat.reduceEqDiff, reduceCtorEq, Nat.reduceAdd, Nat.reduceLeDiff, Nat.reduceSub, Nat.reduceMul, Int.reduceEq, Nat.reduceBEq, t1794, t1795, t1796, t1797, t1798, t1799, t1800, t1801, t1792, hc2, hc673, hc1764, hc1822]) <;> rfl) (k_slices_rotateCmpFunc_int64 h rfl (hL1749.get 0 rfl) (Rows.flat (fun _ _ hx => hx) hr1742) (fun x1824 x1825 Q' hq H1 hs K' hK' => hccmp_ x1824 x1825 Q' hq H1 ((hL1749.subm 0 rfl).trans hs) K' hK') fun  xs1831 h H1827  rows1832 _ hL1829  hr1833 hl1828 => ?_)
              have hL1830 := hL1749.back 0 rfl (L' := []) hL1829
              have hr1833' : Rows (RI .i64) H xs1831 rows1832 := Rows.flat (fun _ _ hx => hx) hr1833
              (try simp only [go_sem, ↓reduceIte, Nat.reduceEqDiff, reduceCtorEq, Nat.reduceAdd, Nat.reduceLeDiff, Nat.reduceSub, Nat.reduceMul, Int.reduceEq, Nat.reduceBEq, t1794, t1795, t1796, t1797, t1798, t1799, t1800, t1801, t1792, hc2, hc673, hc1764, hc1822])
              exact ⟨xs1831, rows1832, h, hL1830, hr1833'⟩
            · have h := hk1816.2 hc1822
              (try simp only [go_sem, ↓reduceIte, Nat.reduceEqDiff, reduceCtorEq, Nat.reduceAdd, Nat.reduceLeDiff, Nat.reduceSub, Nat.reduceMul, Int.reduceEq, Nat.reduceBEq, t1794, t1795, t1796, t1797, t1798, t1799, t1800, t1801, t1792, hc2, hc673, hc1764, hc1822])
              exact ⟨xs1738, rows1741, h, hL1749, hr1742⟩
        · have h := hk1346.1 hc1352
          (try simp only [go_sem, ↓reduceIte, Nat.reduceEqDiff, reduceCtorEq, Nat.reduceAdd, Nat.reduceLeDiff, Nat.reduceSub, Nat.reduceMul, Int.reduceEq, Nat.reduceBEq, hc2, hc673, hc1352])
          exact ⟨(IntKind.i64.wrap ((IntKind.i64.wrap ((IntKind.i64.wrap (Int.fdiv (IntKind.u64.wrap (IntKind.i64.wrap (a_ + b_))) 2)) + m_)) - b_)), (IntKind.i64.wrap (Int.fdiv (IntKind.u64.wrap (IntKind.i64.wrap (a_ + b_))) 2)), h, (by (try simp only [go_sem, ↓reduceIte, Nat.reduceEqDiff, reduceCtorEq, Nat.reduceAdd, Nat.reduceLeDiff, Nat.reduceSub, Nat.reduceMul, Int.reduceEq, Nat.reduceBEq, hc2, hc673, hc1352]) <;> rfl), (by (try simp only [go_sem, ↓reduceIte, Nat.reduceEqDiff, reduceCtorEq, Nat.reduceAdd, Nat.reduceLeDiff, Nat.reduceSub, Nat.reduceMul, Int.reduceEq, Nat.reduceBEq, hc2, hc673, hc1352]) <;> rfl), hL⟩
        · have h := hk1346.2 hc1352
          (try simp only [go_sem, ↓reduceIte, Nat.reduceEqDiff, reduceCtorEq, Nat.reduceAdd, Nat.reduceLeDiff, Nat.reduceSub, Nat.reduceMul, Int.reduceEq, Nat.reduceBEq, hc2, hc673, hc1352])
          exact ⟨a_, m_, h, (by (try simp only [go_sem, ↓reduceIte, Nat.reduceEqDiff, reduceCtorEq, Nat.reduceAdd, Nat.reduceLeDiff, Nat.reduceSub, Nat.reduceMul, Int.reduceEq, Nat.reduceBEq, hc2, hc673, hc1352]) <;> rfl), (by (try simp only [go_sem, ↓reduceIte, Nat.reduceEqDiff, reduceCtorEq, Nat.reduceAdd, Nat.reduceLeDiff, Nat.reduceSub, Nat.reduceMul, Int.reduceEq, Nat.reduceBEq, hc2, hc673, hc1352]) <;> rfl), hL⟩
theorem k_slices_symMergeCmpFunc_int64 {data_ : (List Int)} {a_ : Int} {m_ : Int} {b_ : Int} {cmp_ : (Int → Int → (Int → Prop) → Prop)} {Q : (List Int) → Prop} (h : V_slices_symMergeCmpFunc_int64 data_ a_ m_ b_ cmp_ Q) {H H0 : Hp} {kbdata_ : Option Nat} {tydata_ : TypeId} {vdata_ : Value} {rowsdata_ : List (List Value)} (hH : H = H0.minus kbdata_) (hodata_ : E.ok H0 (.own kbdata_ tydata_ 1 vdata_ rowsdata_)) (rdata_ : Rows (RI .i64) H data_ rowsdata_) {gcmp_ : FuncId} {cpcmp_ : List Value} (hccmp_ : ∀ y0 y1 Q', cmp_ y0 y1 Q' → ∀ H1, H.sub H1 → ∀ K : Value → Hp → Prop, (∀ r, Q' r → K (Value.int .i64 r) H1) → ACalls Go.Proofs.Try.prog gcmp_ ([Value.int .i64 y0, Value.int .i64 y1] ++ cpcmp_).toArray H1 K) {K : Value → Hp → Prop} (hK : ∀ (x' : (List Int)), Q x' → ∀ (H' : Hp) (rows' : List (List Value)), Live H' → Loc H H' ([] ++ [.own kbdata_ tydata_ 1 vdata_ rows']) → Rows (RI .i64) H x' rows' → K (oneOf []) H') :
    ACalls Go.Proofs.Try.prog n_slices_symMergeCmpFunc_int64 #[vdata_, Value.int .i64 a_, Value.int .i64 m_, Value.int .i64 b_, .func (.func gcmp_) #[] cpcmp_.toArray] H0 K := by
  obtain ⟨n, h⟩ := h
  exact kk_slices_symMergeCmpFunc_int64 n h hH hodata_ rdata_ hccmp_ hK
def w_slices_stableCmpFunc_int64 (data_ : (List Int)) (n_ : Int) (cmp_ : (Int → Int → (Int → Prop) → Prop)) (Q : (List Int) → Prop) : Prop := (∃ I1054 : Nat → Int → Int → (List Int) → Prop, (∃ m, I1054 m 0 20 data_) ∧ (∀ (m1064 : Nat) (x1047 : Int) (x1048 : Int) (xs1049 : List Int), I1054 m1064 x1047 x1048 xs1049 → (((decide (x1048 ≤ n_)) = true → (xs1049.length ≤ 1152921504606846976 ∧ (w_slices_insertionSortCmpFunc_int64 xs1049 x1047 x1048 cmp_ fun xs1080 => (∃ m1065, m1065 < m1064 ∧ I1054 m1065 x1048 (IntKind.i64.wrap (x1048 + 20)) xs1080)))) ∧ ((decide (x1048 ≤ n_)) = false → (xs1049.length ≤ 1152921504606846976 ∧ (w_slices_insertionSortCmpFunc_int64 xs1049 x1047 n_ cmp_ fun xs1091 => (∃ I1417 : Nat → Int → (List Int) → Prop, (∃ m, I1417 m 20 xs1091) ∧ (∀ (m1426 : Nat) (x1411 : Int) (xs1412 : List Int), I1417 m1426 x1411 xs1412 → (((decide (x1411 < n_)) = true → (∃ I1531 : Nat → Int → Int → (List Int) → Prop, (∃ m, I1531 m 0 (IntKind.i64.wrap (2 * x1411)) xs1412) ∧ (∀ (m1541 : Nat) (x1524 : Int) (x1525 : Int) (xs1526 : List Int), I1531 m1541 x1524 x1525 xs1526 → (((decide (x1525 ≤ n_)) = true → (xs1526.length ≤ 1152921504606846976 ∧ (V_slices_symMergeCmpFunc_int64 xs1526 x1524 (IntKind.i64.wrap (x1524 + x1411)) x1525 cmp_ fun xs1557 => (∃ m1542, m1542 < m1541 ∧ I1531 m1542 x1525 (IntKind.i64.wrap (x1525 + (IntKind.i64.wrap (2 * x1411)))) xs1557)))) ∧ ((decide (x1525 ≤ n_)) = false → (((decide ((IntKind.i64.wrap (x1524 + x1411)) < n_)) = true → (xs1526.length ≤ 1152921504606846976 ∧ (V_slices_symMergeCmpFunc_int64 xs1526 x1524 (IntKind.i64.wrap (x1524 + x1411)) n_ cmp_ fun xs1569 => (∃ m1427, m1427 < m1426 ∧ I1417 m1427 (IntKind.i64.wrap (x1411 * 2)) xs1569)))) ∧ ((decide ((IntKind.i64.wrap (x1524 + x1411)) < n_)) = false → (∃ m1427, m1427 < m1426 ∧ I1417 m1427 (IntKind.i64.wrap (x1411 * 2)) xs1526)))))))) ∧ ((decide (x1411 < n_)) = false → Q xs1412))))))))))
theorem k_slices_stableCmpFunc_int64 {data_ : (List Int)} {n_ : Int} {cmp_ : (Int → Int → (Int → Prop) → Prop)} {Q : (List Int) → Prop} (h : w_slices_stableCmpFunc_int64 data_ n_ cmp_ Q) {H H0 : Hp} {kbdata_ : Option Nat} {tydata_ : TypeId} {vdata_ : Value} {rowsdata_ : List (List Value)} (hH : H = H0.minus kbdata_) (hodata_ : E.ok H0 (.own kbdata_ tydata_ 1 vdata_ rowsdata_)) (rdata_ : Rows (RI .i64) H data_ rowsdata_) {gcmp_ : FuncId} {cpcmp_ : List Value} (hccmp_ : ∀ y0 y1 Q', cmp_ y0 y1 Q' → ∀ H1, H.sub H1 → ∀ K : Value → Hp → Prop, (∀ r, Q' r → K (Value.int .i64 r) H1) → ACalls Go.Proofs.Try.prog gcmp_ ([Value.int .i64 y0, Value.int .i64 y1] ++ cpcmp_).toArray H1 K) {K : Value → Hp → Prop} (hK : ∀ (x' : (List Int)), Q x' → ∀ (H' : Hp) (rows' : List (List Value)), Live H' → Loc H H' ([] ++ [.own kbdata_ tydata_ 1 vdata_ rows']) → Rows (RI .i64) H x' rows' → K (oneOf []) H') :
    ACalls Go.Proofs.Try.prog n_slices_stableCmpFunc_int64 #[vdata_, Value.int .i64 n_, .func (.func gcmp_) #[] cpcmp_.toArray] H0 K := by
  unfold w_slices_stableCmpFunc_int64 at h
  refine acalls_go fn_slices_stableCmpFunc_int64 rfl fun hl => ?_
  simp only [c_slices_stableCmpFunc_int64]
  have hL := Loc.one hH hodata_
  (try simp only [go_sem, ↓reduceIte, Nat.reduceEqDiff, reduceCtorEq, Nat.reduceAdd, Nat.reduceLeDiff, Nat.reduceSub, Nat.reduceMul, Int.reduceEq, Nat.reduceBEq])
  obtain ⟨I1054, ⟨m0, h0⟩, hSI1054⟩ := h
  refine aw_loopM hl (fun m1064 T' H' => ∃ x1047 x1048 xs1049 rows1052, I1054 m1064 x1047 x1048 xs1049 ∧ T' 7 = Value.int .i64 x1047 ∧ T' 8 = Value.int .i64 x1048 ∧ Loc H H' [.own kbdata_ tydata_ 1 vdata_ rows1052] ∧ Rows (RI .i64) H xs1049 rows1052) m0 H0 (Hp.sub.refl _) ⟨0, 20, data_, rowsdata_, h0, (by (try simp only [go_sem, ↓reduceIte, Nat.reduceEqDiff, reduceCtorEq, Nat.reduceAdd, Nat.reduceLeDiff, Nat.reduceSub, Nat.reduceMul, Int.reduceEq, Nat.reduceBEq]) <;> rfl), (by (try simp only [go_sem, ↓reduceIte, Nat.reduceEqDiff, reduceCtorEq, Nat.reduceAdd, Nat.reduceLeDiff, Nat.reduceSub, Nat.reduceMul, Int.reduceEq, Nat.reduceBEq]) <;> rfl), hL, rdata_⟩ ?_
  rintro m1064 T1057 H1056 hl1058 ho1059 ⟨x1047, x1048, xs1049, rows1052, hI1061, t1062, t1063, hL1060, hr1053⟩
  have t1067 : T1057 0 = vdata_ := by rw [ho1059.get rfl]; (try simp only [go_sem, ↓reduceIte, Nat.reduceEqDiff, reduceCtorEq, Nat.reduceAdd, Nat.reduceLeDiff, Nat.reduceSub, Nat.reduceMul, Int.reduceEq, Nat.reduceBEq])
  have t1068 : T1057 1 = Value.int .i64 n_ := by rw [ho1059.get rfl]; (try simp only [go_sem, ↓reduceIte, Nat.reduceEqDiff, reduceCtorEq, Nat.reduceAdd, Nat.reduceLeDiff, Nat.reduceSub, Nat.reduceMul, Int.reduceEq, Nat.reduceBEq])
  have t1069 : T1057 2 = Value.func (.func gcmp_) #[] cpcmp_.toArray := by rw [ho1059.get rfl]; (try simp only [go_sem, ↓reduceIte, Nat.reduceEqDiff, reduceCtorEq, Nat.reduceAdd, Nat.reduceLeDiff, Nat.reduceSub, Nat.reduceMul, Int.reduceEq, Nat.reduceBEq])
  have t1070 : T1057 6 = Value.int .i64 20 := by rw [ho1059.get rfl]; (try simp only [go_sem, ↓reduceIte, Nat.reduceEqDiff, reduceCtorEq, Nat.reduceAdd, Nat.reduceLeDiff, Nat.reduceSub, Nat.reduceMul, Int.reduceEq, Nat.reduceBEq])
  have h := hSI1054 m1064 x1047 x1048 xs1049 hI1061
  (try simp only [go_sem, ↓reduceIte, Nat.reduceEqDiff, reduceCtorEq, Nat.reduceAdd, Nat.reduceLeDiff, Nat.reduceSub, Nat.reduceMul, Int.reduceEq, Nat.reduceBEq, t1062, t1063, t1067, t1068, t1069, t1070])
  cases hc1071 : (decide (x1048 ≤ n_)) with
  | true =>
    have h := h.1 hc1071
    obtain ⟨hle1072, h⟩ := h
    (try simp only [go_sem, ↓reduceIte, Nat.reduceEqDiff, reduceCtorEq, Nat.reduceAdd, Nat.reduceLeDiff, Nat.reduceSub, Nat.reduceMul, Int.reduceEq, Nat.reduceBEq, t1062, t1063, t1067, t1068, t1069, t1070, hc1071])
    refine aw_callL (by (try simp only [go_sem, ↓reduceIte, Nat.reduceEqDiff, reduceCtorEq, Nat.reduceAdd, Nat.reduceLeDiff, Nat.reduceSub, Nat.reduceMul, Int.reduceEq, Nat.reduceBEq, t1062, t1063, t1067, t1068, t1069, t1070, hc1071]) <;> rfl) (by (try simp only [go_sem, ↓reduceIte, Nat.reduceEqDiff, reduceCtorEq, Nat.reduceAdd, Nat.reduceLeDiff, Nat.reduceSub, Nat.reduceMul, Int.reduceEq, Nat.reduceBEq, t1062, t1063, t1067, t1068, t1069, t1070, hc1071]) <;> rfl) (k_slices_insertionSortCmpFunc_int64 h rfl (hL1060.get 0 rfl) (Rows.flat (fun _ _ hx => hx) hr1053) (fun x1073 x1074 Q' hq H1 hs K' hK' => hccmp_ x1073 x1074 Q' hq H1 ((hL1060.subm 0 rfl).trans hs) K' hK') fun  xs1080 h H1076  rows1081 _ hL1078  hr1082 hl1077 => ?_)
    have hL1079 := hL1060.back 0 rfl (L' := []) hL1078
    have hr1082' : Rows (RI .i64) H xs1080 rows1081 := Rows.flat (fun _ _ hx => hx) hr1082
    obtain ⟨m1065, hm1066, h⟩ := h
    (try simp only [go_sem, ↓reduceIte, Nat.reduceEqDiff, reduceCtorEq, Nat.reduceAdd, Nat.reduceLeDiff, Nat.reduceSub, Nat.reduceMul, Int.reduceEq, Nat.reduceBEq, t1062, t1063, t1067, t1068, t1069, t1070, hc1071])
    exact ⟨m1065, H1076, hm1066, Hp.sub.refl _, x1048, (IntKind.i64.wrap (x1048 + 20)), xs1080, rows1081, h, (by (try simp only [go_sem, ↓reduceIte, Nat.reduceEqDiff, reduceCtorEq, Nat.reduceAdd, Nat.reduceLeDiff, Nat.reduceSub, Nat.reduceMul, Int.reduceEq, Nat.reduceBEq, t1062, t1063, t1067, t1068, t1069, t1070, hc1071]) <;> rfl), (by (try simp only [go_sem, ↓reduceIte, Nat.reduceEqDiff, reduceCtorEq, Nat.reduceAdd, Nat.reduceLeDiff, Nat.reduceSub, Nat.reduceMul, Int.reduceEq, Nat.reduceBEq, t1062, t1063, t1067, t1068, t1069, t1070, hc1071]) <;> rfl), hL1079, hr1082'⟩
  | false =>
    have h := h.2 hc1071
    obtain ⟨hle1083, h⟩ := h
    (try simp only [go_sem, ↓reduceIte, Nat.reduceEqDiff, reduceCtorEq, Nat.reduceAdd, Nat.reduceLeDiff, Nat.reduceSub, Nat.reduceMul, Int.reduceEq, Nat.reduceBEq, t1062, t1063, t1067, t1068, t1069, t1070, hc1071])
    refine aw_callL (by (try simp only [go_sem, ↓reduceIte, Nat.reduceEqDiff, reduceCtorEq, Nat.reduceAdd, Nat.reduceLeDiff, Nat.reduceSub, Nat.reduceMul, Int.reduceEq, Nat.reduceBEq, t1062, t1063, t1067, t1068, t1069, t1070, hc1071]) <;> rfl) (by (try simp only [go_sem, ↓reduceIte, Nat.reduceEqDiff, reduceCtorEq, Nat.reduceAdd, Nat.reduceLeDiff, Nat.reduceSub, Nat.reduceMul, Int.reduceEq, Nat.reduceBEq, t1062, t1063, t1067, t1068, t1069, t1070, hc1071]) <;> rfl) (k_slices_insertionSortCmpFunc_int64 h rfl (hL1060.get 0 rfl) (Rows.flat (fun _ _ hx => hx) hr1053) (fun x1084 x1085 Q' hq H1 hs K' hK' => hccmp_ x1084 x1085 Q' hq H1 ((hL1060.subm 0 rfl).trans hs) K' hK') fun  xs1091 h H1087  rows1092 _ hL1089  hr1093 hl1088 => ?_)
    have hL1090 := hL1060.back 0 rfl (L' := []) hL1089
    have hr1093' : Rows (RI .i64) H xs1091 rows1092 := Rows.flat (fun _ _ hx => hx) hr1093
    (try simp only [go_sem, ↓reduceIte, Nat.reduceEqDiff, reduceCtorEq, Nat.reduceAdd, Nat.reduceLeDiff, Nat.reduceSub, Nat.reduceMul, Int.reduceEq, Nat.reduceBEq, t1062, t1063, t1067, t1068, t1069, t1070, hc1071])
    obtain ⟨I1417, ⟨m0, h0⟩, hSI1417⟩ := h
    refine aw_loopM hl1088 (fun m1426 T' H' => ∃ x1411 xs1412 rows1415, I1417 m1426 x1411 xs1412 ∧ T' 6 = Value.int .i64 x1411 ∧ Loc H H' [.own kbdata_ tydata_ 1 vdata_ rows1415] ∧ Rows (RI .i64) H xs1412 rows1415) m0 H1087 (Hp.sub.refl _) ⟨20, xs1091, rows1092, h0, (by (try simp only [go_sem, ↓reduceIte, Nat.reduceEqDiff, reduceCtorEq, Nat.reduceAdd, Nat.reduceLeDiff, Nat.reduceSub, Nat.reduceMul, Int.reduceEq, Nat.reduceBEq, t1062, t1063, t1067, t1068, t1069, t1070, hc1071]) <;> rfl), hL1090, hr1093'⟩ ?_
    rintro m1426 T1420 H1419 hl1421 ho1422 ⟨x1411, xs1412, rows1415, hI1424, t1425, hL1423, hr1416⟩
    have t1429 : T1420 0 = vdata_ := by rw [ho1422.get rfl]; (try simp only [go_sem, ↓reduceIte, Nat.reduceEqDiff, reduceCtorEq, Nat.reduceAdd, Nat.reduceLeDiff, Nat.reduceSub, Nat.reduceMul, Int.reduceEq, Nat.reduceBEq, t1062, t1063, t1067, t1068, t1069, t1070, hc1071])
    have t1430 : T1420 1 = Value.int .i64 n_ := by rw [ho1422.get rfl]; (try simp only [go_sem, ↓reduceIte, Nat.reduceEqDiff, reduceCtorEq, Nat.reduceAdd, Nat.reduceLeDiff, Nat.reduceSub, Nat.reduceMul, Int.reduceEq, Nat.reduceBEq, t1062, t1063, t1067, t1068, t1069, t1070, hc1071])
    have t1431 : T1420 2 = Value.func (.func gcmp_) #[] cpcmp_.toArray := by rw [ho1422.get rfl]; (try simp only [go_sem, ↓reduceIte, Nat.reduceEqDiff, reduceCtorEq, Nat.reduceAdd, Nat.reduceLeDiff, Nat.reduceSub, Nat.reduceMul, Int.reduceEq, Nat.reduceBEq, t1062, t1063, t1067, t1068, t1069, t1070, hc1071])
    have h := hSI1417 m1426 x1411 xs1412 hI1424
    (try simp only [go_sem, ↓reduceIte, Nat.reduceEqDiff, reduceCtorEq, Nat.reduceAdd, Nat.reduceLeDiff, Nat.reduceSub, Nat.reduceMul, Int.reduceEq, Nat.reduceBEq, t1425, t1429, t1430, t1431, hc1071])
    cases hc1432 : (decide (x1411 < n_)) with
    | true =>
      have h := h.1 hc1432
      (try simp only [go_sem, ↓reduceIte, Nat.reduceEqDiff, reduceCtorEq, Nat.reduceAdd, Nat.reduceLeDiff, Nat.reduceSub, Nat.reduceMul, Int.reduceEq, Nat.reduceBEq, t1425, t1429, t1430, t1431, hc1071, hc1432])
      obtain ⟨I1531, ⟨m0, h0⟩, hSI1531⟩ := h
      refine aw_loopM hl1421 (fun m1541 T' H' => ∃ x1524 x1525 xs1526 rows1529, I1531 m1541 x1524 x1525 xs1526 ∧ T' 7 = Value.int .i64 x1524 ∧ T' 8 = Value.int .i64 x1525 ∧ Loc H H' [.own kbdata_ tydata_ 1 vdata_ rows1529] ∧ Rows (RI .i64) H xs1526 rows1529) m0 H1419 (Hp.sub.refl _) ⟨0, (IntKind.i64.wrap (2 * x1411)), xs1412, rows1415, h0, (by (try simp only [go_sem, ↓reduceIte, Nat.reduceEqDiff, reduceCtorEq, Nat.reduceAdd, Nat.reduceLeDiff, Nat.reduceSub, Nat.reduceMul, Int.reduceEq, Nat.reduceBEq, t1425, t1429, t1430, t1431, hc1071, hc1432]) <;> rfl), (by (try simp only [go_sem, ↓reduceIte, Nat.reduceEqDiff, reduceCtorEq, Nat.reduceAdd, Nat.reduceLeDiff, Nat.reduceSub, Nat.reduceMul, Int.reduceEq, Nat.reduceBEq, t1425, t1429, t1430, t1431, hc1071, hc1432]) <;> rfl), hL1423, hr1416⟩ ?_
      rintro m1541 T1534 H1533 hl1535 ho1536 ⟨x1524, x1525, xs1526, rows1529, hI1538, t1539, t1540, hL1537, hr1530⟩
      have t1544 : T1534 0 = vdata_ := by rw [ho1536.get rfl]; (try simp only [go_sem, ↓reduceIte, Nat.reduceEqDiff, reduceCtorEq, Nat.reduceAdd, Nat.reduceLeDiff, Nat.reduceSub, Nat.reduceMul, Int.reduceEq, Nat.reduceBEq, t1425, t1429, t1430, t1431, hc1071, hc1432])
      have t1545 : T1534 1 = Value.int .i64 n_ := by rw [ho1536.get rfl]; (try simp only [go_sem, ↓reduceIte, Nat.reduceEqDiff, reduceCtorEq, Nat.reduceAdd, Nat.reduceLeDiff, Nat.reduceSub, Nat.reduceMul, Int.reduceEq, Nat.reduceBEq, t1425, t1429, t1430, t1431, hc1071, hc1432])
      have t1546 : T1534 2 = Value.func (.func gcmp_) #[] cpcmp_.toArray := by rw [ho1536.get rfl]; (try simp only [go_sem, ↓reduceIte, Nat.reduceEqDiff, reduceCtorEq, Nat.reduceAdd, Nat.reduceLeDiff, Nat.reduceSub, Nat.reduceMul, Int.reduceEq, Nat.reduceBEq, t1425, t1429, t1430, t1431, hc1071, hc1432])
      have t1547 : T1534 6 = Value.int .i64 x1411 := by rw [ho1536.get rfl]; (try simp only [go_sem, ↓reduceIte, Nat.reduceEqDiff, reduceCtorEq, Nat.reduceAdd, Nat.reduceLeDiff, Nat.reduceSub, Nat.reduceMul, Int.reduceEq, Nat.reduceBEq, t1425, t1429, t1430, t1431, hc1071, hc1432])
      have h := hSI1531 m1541 x1524 x1525 xs1526 hI1538
      (try simp only [go_sem, ↓reduceIte, Nat.reduceEqDiff, reduceCtorEq, Nat.reduceAdd, Nat.reduceLeDiff, Nat.reduceSub, Nat.reduceMul, Int.reduceEq, Nat.reduceBEq, t1539, t1540, t1544, t1545, t1546, t1547, hc1071, hc1432])
      cases hc1548 : (decide (x1525 ≤ n_)) with
      | true =>
        have h := h.1 hc1548
        obtain ⟨hle1549, h⟩ := h
        (try simp only [go_sem, ↓reduceIte, Nat.reduceEqDiff, reduceCtorEq, Nat.reduceAdd, Nat.reduceLeDiff, Nat.reduceSub, Nat.reduceMul, Int.reduceEq, Nat.reduceBEq, t1539, t1540, t1544, t1545, t1546, t1547, hc1071, hc1432, hc1548])
        refine aw_callL (by (try simp only [go_sem, ↓reduceIte, Nat.reduceEqDiff, reduceCtorEq, Nat.reduceAdd, Nat.reduceLeDiff, Nat.reduceSub, Nat.reduceMul, Int.reduceEq, Nat.reduceBEq, t1539, t1540, t1544, t1545, t1546, t1547, hc1071, hc1432, hc1548]) <;> rfl) (by (try simp only [go_sem, ↓reduceIte, Nat.reduceEqDiff, reduceCtorEq, Nat.reduceAdd, Nat.reduceLeDiff, Nat.reduceSub, Nat.reduceMul, Int.reduceEq, Nat.reduceBEq, t1539, t1540, t1544, t1545, t1546, t1547, hc1071, hc1432, hc1548]) <;> rfl) (k_slices_symMergeCmpFunc_int64 h rfl (hL1537.get 0 rfl) (Rows.flat (fun _ _ hx => hx) hr1530) (fun x1550 x1551 Q' hq H1 hs K' hK' => hccmp_ x1550 x1551 Q' hq H1 ((hL1537.subm 0 rfl).trans hs) K' hK') fun  xs1557 h H1553  rows1558 _ hL1555  hr1559 hl1554 => ?_)
        have hL1556 := hL1537.back 0 rfl (L' := []) hL1555
        have hr1559' : Rows (RI .i64) H xs1557 rows1558 := Rows.flat (fun _ _ hx => hx) hr1559
        obtain ⟨m1542, hm1543, h⟩ := h
        (try simp only [go_sem, ↓reduceIte, Nat.reduceEqDiff, reduceCtorEq, Nat.reduceAdd, Nat.reduceLeDiff, Nat.reduceSub, Nat.reduceMul, Int.reduceEq, Nat.reduceBEq, t1539, t1540, t1544, t1545, t1546, t1547, hc1071, hc1432, hc1548])
        exact ⟨m1542, H1553, hm1543, Hp.sub.refl _, x1525, (IntKind.i64.wrap (x1525 + (IntKind.i64.wrap (2 * x1411)))), xs1557, rows1558, h, (by (try simp only [go_sem, ↓reduceIte, Nat.reduceEqDiff, reduceCtorEq, Nat.reduceAdd, Nat.reduceLeDiff, Nat.reduceSub, Nat.reduceMul, Int.reduceEq, Nat.reduceBEq, t1539, t1540, t1544, t1545, t1546, t1547, hc1071, hc1432, hc1548]) <;> rfl), (by (try simp only [go_sem, ↓reduceIte, Nat.reduceEqDiff, reduceCtorEq, Nat.reduceAdd, Nat.reduceLeDiff, Nat.reduceSub, Nat.reduceMul, Int.reduceEq, Nat.reduceBEq, t1539, t1540, t1544, t1545, t1546, t1547, hc1071, hc1432, hc1548]) <;> rfl), hL1556, hr1559'⟩
      | false =>
        have h := h.2 hc1548
        (try simp only [go_sem, ↓reduceIte, Nat.reduceEqDiff, reduceCtorEq, Nat.reduceAdd, Nat.reduceLeDiff, Nat.reduceSub, Nat.reduceMul, Int.reduceEq, Nat.reduceBEq, t1539, t1540, t1544, t1545, t1546, t1547, hc1071, hc1432, hc1548])
        cases hc1560 : (decide ((IntKind.i64.wrap (x1524 + x1411)) < n_)) with
        | true =>
          have h := h.1 hc1560
          obtain ⟨hle1561, h⟩ := h
          (try simp only [go_sem, ↓reduceIte, Nat.reduceEqDiff, reduceCtorEq, Nat.reduceAdd, Nat.reduceLeDiff, Nat.reduceSub, Nat.reduceMul, Int.reduceEq, Nat.reduceBEq, t1539, t1540, t1544, t1545, t1546, t1547, hc1071, hc1432, hc1548, hc1560])
          refine aw_callL (by (try simp only [go_sem, ↓reduceIte, Nat.reduceEqDiff, reduceCtorEq, Nat.reduceAdd, Nat.reduceLeDiff, Nat.reduceSub, Nat.reduceMul, Int.reduceEq, Nat.reduceBEq, t1539, t1540, t1544, t1545, t1546, t1547, hc1071, hc1432, hc1548, hc1560]) <;> rfl) (by (try simp only [go_sem, ↓reduceIte, Nat.reduceEqDiff, reduceCtorEq, Nat.reduceAdd, Nat.reduceLeDiff, Nat.reduceSub, Nat.reduceMul, Int.reduceEq, Nat.reduceBEq, t1539, t1540, t1544, t1545, t1546, t1547, hc1071, hc1432, hc1548, hc1560]) <;> rfl) (k_slices_symMergeCmpFunc_int64 h rfl (hL1537.get 0 rfl) (Rows.flat (fun _ _ hx => hx) hr1530) (fun x1562 x1563 Q' hq H1 hs K' hK' => hccmp_ x1562 x1563 Q' hq H1 ((hL1537.subm 0 rfl).trans hs) K' hK') fun  xs1569 h H1565  rows1570 _ hL1567  hr1571 hl1566 => ?_)
          have hL1568 := hL1537.back 0 rfl (L' := []) hL1567
          have hr1571' : Rows (RI .i64) H xs1569 rows1570 := Rows.flat (fun _ _ hx => hx) hr1571
          obtain ⟨m1427, hm1428, h⟩ := h
          (try simp only [go_sem, ↓reduceIte, Nat.reduceEqDiff, reduceCtorEq, Nat.reduceAdd, Nat.reduceLeDiff, Nat.reduceSub, Nat.reduceMul, Int.reduceEq, Nat.reduceBEq, t1539, t1540, t1544, t1545, t1546, t1547, hc1071, hc1432, hc1548, hc1560])
          exact ⟨m1427, H1565, hm1428, Hp.sub.refl _, (IntKind.i64.wrap (x1411 * 2)), xs1569, rows1570, h, (by (try simp only [go_sem, ↓reduceIte, Nat.reduceEqDiff, reduceCtorEq, Nat.reduceAdd, Nat.reduceLeDiff, Nat.reduceSub, Nat.reduceMul, Int.reduceEq, Nat.reduceBEq, t1539, t1540, t1544, t1545, t1546, t1547, hc1071, hc1432, hc1548, hc1560]) <;> rfl), hL1568, hr1571'⟩
        | false =>
          have h := h.2 hc1560
          obtain ⟨m1427, hm1428, h⟩ := h
          (try simp only [go_sem, ↓reduceIte, Nat.reduceEqDiff, reduceCtorEq, Nat.reduceAdd, Nat.reduceLeDiff, Nat.reduceSub, Nat.reduceMul, Int.reduceEq, Nat.reduceBEq, t1539, t1540, t1544, t1545, t1546, t1547, hc1071, hc1432, hc1548, hc1560])
          exact ⟨m1427, H1533, hm1428, Hp.sub.refl _, (IntKind.i64.wrap (x1411 * 2)), xs1526, rows1529, h, (by (try simp only [go_sem, ↓reduceIte, Nat.reduceEqDiff, reduceCtorEq, Nat.reduceAdd, Nat.reduceLeDiff, Nat.reduceSub, Nat.reduceMul, Int.reduceEq, Nat.reduceBEq, t1539, t1540, t1544, t1545, t1546, t1547, hc1071, hc1432, hc1548, hc1560]) <;> rfl), hL1537, hr1530⟩
    | false =>
      have h := h.2 hc1432
      (try simp only [go_sem, ↓reduceIte, Nat.reduceEqDiff, reduceCtorEq, Nat.reduceAdd, Nat.reduceLeDiff, Nat.reduceSub, Nat.reduceMul, Int.reduceEq, Nat.reduceBEq, t1425, t1429, t1430, t1431, hc1071, hc1432])
      first | exact retQ_n0 H1419 (Hp.sub.refl _) (hK _ h H1419 rows1415 hl1421 (hL1423.sel [0] (by decide)) hr1416) | exact retQ_r0 H1419 (Hp.sub.refl _) (hK _ h H1419 rows1415 hl1421 (hL1423.sel [0] (by decide)) hr1416)
def w_slices_SortStableFunc_int64 (x_ : (List Int)) (cmp_ : (Int → Int → (Int → Prop) → Prop)) (Q : (List Int) → Prop) : Prop := (x_.length ≤ 1152921504606846976 ∧ (w_slices_stableCmpFunc_int64 x_ (x_.length : Int) cmp_ fun xs11 => Q xs11))
theorem k_slices_SortStableFunc_int64 {x_ : (List Int)} {cmp_ : (Int → Int → (Int → Prop) → Prop)} {Q : (List Int) → Prop} (h : w_slices_SortStableFunc_int64 x_ cmp_ Q) {H H0 : Hp} {kbx_ : Option Nat} {tyx_ : TypeId} {vx_ : Value} {rowsx_ : List (List Value)} (hH : H = H0.minus kbx_) (hox_ : E.ok H0 (.own kbx_ tyx_ 1 vx_ rowsx_)) (rx_ : Rows (RI .i64) H x_ rowsx_) {gcmp_ : FuncId} {cpcmp_ : List Value} (hccmp_ : ∀ y0 y1 Q', cmp_ y0 y1 Q' → ∀ H1, H.sub H1 → ∀ K : Value → Hp → Prop, (∀ r, Q' r → K (Value.int .i64 r) H1) → ACalls Go.Proofs.Try.prog gcmp_ ([Value.int .i64 y0, Value.int .i64 y1] ++ cpcmp_).toArray H1 K) {K : Value → Hp → Prop} (hK : ∀ (x' : (List Int)), Q x' → ∀ (H' : Hp) (rows' : List (List Value)), Live H' → Loc H H' ([] ++ [.own kbx_ tyx_ 1 vx_ rows']) → Rows (RI .i64) H x' rows' → K (oneOf []) H') :
    ACalls Go.Proofs.Try.prog n_slices_SortStableFunc_int64 #[vx_, .func (.func gcmp_) #[] cpcmp_.toArray] H0 K := by
  unfold w_slices_SortStableFunc_int64 at h
  refine acalls_go fn_slices_SortStableFunc_int64 rfl fun hl => ?_
  simp only [c_slices_SortStableFunc_int64]
  have hL := Loc.one hH hox_
  have hn2 := hL.lenR 0 rfl rx_
  obtain ⟨hle3, h⟩ := h
  (try simp only [go_sem, ↓reduceIte, Nat.reduceEqDiff, reduceCtorEq, Nat.reduceAdd, Nat.reduceLeDiff, Nat.reduceSub, Nat.reduceMul, Int.reduceEq, Nat.reduceBEq, hn2])
  refine aw_callL (by (try simp only [go_sem, ↓reduceIte, Nat.reduceEqDiff, reduceCtorEq, Nat.reduceAdd, Nat.reduceLeDiff, Nat.reduceSub, Nat.reduceMul, Int.reduceEq, Nat.reduceBEq, hn2]) <;> rfl) (by (try simp only [go_sem, ↓reduceIte, Nat.reduceEqDiff, reduceCtorEq, Nat.reduceAdd, Nat.reduceLeDiff, Nat.reduceSub, Nat.reduceMul, Int.reduceEq, Nat.reduceBEq, hn2]) <;> rfl) (k_slices_stableCmpFunc_int64 h rfl (hL.get 0 rfl) (Rows.flat (fun _ _ hx => hx) rx_) (fun x4 x5 Q' hq H1 hs K' hK' => hccmp_ x4 x5 Q' hq H1 ((hL.subm 0 rfl).trans hs) K' hK') fun  xs11 h H7  rows12 _ hL9  hr13 hl8 => ?_)
  have hL10 := hL.back 0 rfl (L' := []) hL9
  have hr13' : Rows (RI .i64) H xs11 rows12 := Rows.flat (fun _ _ hx => hx) hr13
  (try simp only [go_sem, ↓reduceIte, Nat.reduceEqDiff, reduceCtorEq, Nat.reduceAdd, Nat.reduceLeDiff, Nat.reduceSub, Nat.reduceMul, Int.reduceEq, Nat.reduceBEq, hn2])
  first | exact retQ_n0 H7 (Hp.sub.refl _) (hK _ h H7 rows12 hl8 (hL10.sel [0] (by decide)) hr13') | exact retQ_r0 H7 (Hp.sub.refl _) (hK _ h H7 rows12 hl8 (hL10.sel [0] (by decide)) hr13')
def w_impl_canMatch (o_ : S_Order) (r_ : S_Return) (days_ : Int) (Q : Bool → Prop) : Prop := (∃ k24 : Bool → Prop, (∀ x25, k24 x25 → Q x25) ∧ (((decide (o_.fBuyer = r_.fBuyer)) && (decide (o_.fItem = r_.fItem))) = true → (w_impl_within (IntKind.i64.wrap ((IntKind.i64.wrap r_.fDay) - (IntKind.i64.wrap o_.fDay))) 0 days_ fun r26 => k24 r26)) ∧ (((decide (o_.fBuyer = r_.fBuyer)) && (decide (o_.fItem = r_.fItem))) = false → k24 false))
theorem k_impl_canMatch {o_ : S_Order} {r_ : S_Return} {days_ : Int} {Q : Bool → Prop} (h : w_impl_canMatch o_ r_ days_ Q) {H : Hp} {cso_ : List Value} (ro_ : R_Order H o_ cso_) {csr_ : List Value} (rr_ : R_Return H r_ csr_) {K : Value → Hp → Prop} (hK : ∀ (r0 : Bool), Q r0 → K (Value.bool r0) H) :
    ACalls Go.Proofs.Try.prog n_impl_canMatch #[.agg cso_.toArray, .agg csr_.toArray, Value.int .i64 days_] H K := by
  unfold w_impl_canMatch at h
  obtain rfl : cso_ = [Value.int .i8 o_.fBuyer, Value.int .i8 o_.fItem, Value.int .i16 o_.fNumber, Value.int .i16 o_.fPrice, Value.int .i16 o_.fDay] := ro_
  obtain rfl : csr_ = [Value.int .i8 r_.fBuyer, Value.int .i8 r_.fItem, Value.int .i16 r_.fNumber, Value.int .i16 r_.fDay] := rr_
  refine acalls_go fn_impl_canMatch rfl fun hl => ?_
  simp only [c_impl_canMatch]
  have hL := Loc.nil H
  (try simp only [go_sem, ↓reduceIte, Nat.reduceEqDiff, reduceCtorEq, Nat.reduceAdd, Nat.reduceLeDiff, Nat.reduceSub, Nat.reduceMul, Int.reduceEq, Nat.reduceBEq])
  refine awL_box [Value.int .i8 o_.fBuyer, Value.int .i8 o_.fItem, Value.int .i16 o_.fNumber, Value.int .i16 o_.fPrice, Value.int .i16 o_.fDay] hl hL (by (try simp only [go_sem, ↓reduceIte, Nat.reduceEqDiff, reduceCtorEq, Nat.reduceAdd, Nat.reduceLeDiff, Nat.reduceSub, Nat.reduceMul, Int.reduceEq, Nat.reduceBEq]) <;> rfl) fun b1 H2 hl3 hL4 => ?_
  (try simp only [go_sem, ↓reduceIte, Nat.reduceEqDiff, reduceCtorEq, Nat.reduceAdd, Nat.reduceLeDiff, Nat.reduceSub, Nat.reduceMul, Int.reduceEq, Nat.reduceBEq])
  refine awL_box [Value.int .i8 r_.fBuyer, Value.int .i8 r_.fItem, Value.int .i16 r_.fNumber, Value.int .i16 r_.fDay] hl3 hL4 (by (try simp only [go_sem, ↓reduceIte, Nat.reduceEqDiff, reduceCtorEq, Nat.reduceAdd, Nat.reduceLeDiff, Nat.reduceSub, Nat.reduceMul, Int.reduceEq, Nat.reduceBEq]) <;> rfl) fun b6 H7 hl8 hL9 => ?_
  have hb11 := hL9.box 1 rfl
  have hb12 := hL9.box 0 rfl
  (try simp only [go_sem, ↓reduceIte, Nat.reduceEqDiff, reduceCtorEq, Nat.reduceAdd, Nat.reduceLeDiff, Nat.reduceSub, Nat.reduceMul, Int.reduceEq, Nat.reduceBEq, hb11, hb12])
  refine aw_cut 6 (fun T' H' => T' 18 = Value.bool ((decide (o_.fBuyer = r_.fBuyer)) && (decide (o_.fItem = r_.fItem))) ∧ H' = H7) hl8 rfl ?_ (fun T14 H15 _ ho16 hj17 => ?_)
  · cases hc13 : (decide (o_.fBuyer = r_.fBuyer)) with
    | true =>
      simp only [opsK]
      (try simp only [go_sem, ↓reduceIte, Nat.reduceEqDiff, reduceCtorEq, Nat.reduceAdd, Nat.reduceLeDiff, Nat.reduceSub, Nat.reduceMul, Int.reduceEq, Nat.reduceBEq, hc13, hb11, hb12])
      exact ⟨by (try simp only [go_sem, ↓reduceIte, Nat.reduceEqDiff, reduceCtorEq, Nat.reduceAdd, Nat.reduceLeDiff, Nat.reduceSub, Nat.reduceMul, Int.reduceEq, Nat.reduceBEq, hc13, hb11, hb12, Bool.false_and, Bool.true_or, Bool.false_or]), rfl⟩
    | false =>
      simp only [opsK]
      (try simp only [go_sem, ↓reduceIte, Nat.reduceEqDiff, reduceCtorEq, Nat.reduceAdd, Nat.reduceLeDiff, Nat.reduceSub, Nat.reduceMul, Int.reduceEq, Nat.reduceBEq, hb11, hb12, hc13])
      exact ⟨by (try simp only [go_sem, ↓reduceIte, Nat.reduceEqDiff, reduceCtorEq, Nat.reduceAdd, Nat.reduceLeDiff, Nat.reduceSub, Nat.reduceMul, Int.reduceEq, Nat.reduceBEq, Bool.false_and, Bool.true_or, Bool.false_or]), rfl⟩
  obtain ⟨t18, hH19⟩ := hj17
  rw [hH19]
  have t20 : T14 2 = Value.int .i64 days_ := by rw [ho16.get rfl]; (try simp only [go_sem, ↓reduceIte, Nat.reduceEqDiff, reduceCtorEq, Nat.reduceAdd, Nat.reduceLeDiff, Nat.reduceSub, Nat.reduceMul, Int.reduceEq, Nat.reduceBEq, hb11, hb12])
  have t21 : T14 3 = Value.pointer (some ⟨b1, 0, none⟩) := by rw [ho16.get rfl]; (try simp only [go_sem, ↓reduceIte, Nat.reduceEqDiff, reduceCtorEq, Nat.reduceAdd, Nat.reduceLeDiff, Nat.reduceSub, Nat.reduceMul, Int.reduceEq, Nat.reduceBEq, hb11, hb12])
  have t22 : T14 4 = Value.pointer (some ⟨b6, 0, none⟩) := by rw [ho16.get rfl]; (try simp only [go_sem, ↓reduceIte, Nat.reduceEqDiff, reduceCtorEq, Nat.reduceAdd, Nat.reduceLeDiff, Nat.reduceSub, Nat.reduceMul, Int.reduceEq, Nat.reduceBEq, hb11, hb12])
  (try simp only [go_sem, ↓reduceIte, Nat.reduceEqDiff, reduceCtorEq, Nat.reduceAdd, Nat.reduceLeDiff, Nat.reduceSub, Nat.reduceMul, Int.reduceEq, Nat.reduceBEq, t20, t21, t22, t18, hb11, hb12])
  obtain ⟨k24, hk28, hk24, h29⟩ := h
  refine aw_cut 10 (fun T' H' => ∃ x25, k24 x25 ∧ T' 29 = Value.bool x25 ∧ H' = H7) hl8 rfl ?_ (fun T30 H31 _ ho32 hj33 => ?_)
  · cases hc23 : ((decide (o_.fBuyer = r_.fBuyer)) && (decide (o_.fItem = r_.fItem))) with
    | true =>
      simp only [opsK]
      have h := hk24 hc23
      (try simp only [go_sem, ↓reduceIte, Nat.reduceEqDiff, reduceCtorEq, Nat.reduceAdd, Nat.reduceLeDiff, Nat.reduceSub, Nat.reduceMul, Int.reduceEq, Nat.reduceBEq, t20, t21, t22, t18, hc23, hb11, hb12])
      refine aw_call (by (try simp only [go_sem, ↓reduceIte, Nat.reduceEqDiff, reduceCtorEq, Nat.reduceAdd, Nat.reduceLeDiff, Nat.reduceSub, Nat.reduceMul, Int.reduceEq, Nat.reduceBEq, t20, t21, t22, t18, hc23, hb11, hb12]) <;> rfl) (by (try simp only [go_sem, ↓reduceIte, Nat.reduceEqDiff, reduceCtorEq, Nat.reduceAdd, Nat.reduceLeDiff, Nat.reduceSub, Nat.reduceMul, Int.reduceEq, Nat.reduceBEq, t20, t21, t22, t18, hc23, hb11, hb12]) <;> rfl) (k_impl_within h fun r26 h => ?_)
      (try simp only [go_sem, ↓reduceIte, Nat.reduceEqDiff, reduceCtorEq, Nat.reduceAdd, Nat.reduceLeDiff, Nat.reduceSub, Nat.reduceMul, Int.reduceEq, Nat.reduceBEq, t20, t21, t22, t18, hc23, hb11, hb12])
      exact ⟨r26, h, by (try simp only [go_sem, ↓reduceIte, Nat.reduceEqDiff, reduceCtorEq, Nat.reduceAdd, Nat.reduceLeDiff, Nat.reduceSub, Nat.reduceMul, Int.reduceEq, Nat.reduceBEq, t20, t21, t22, t18, hc23, hb11, hb12]), rfl⟩
    | false =>
      simp only [opsK]
      (try simp only [go_sem, ↓reduceIte, Nat.reduceEqDiff, reduceCtorEq, Nat.reduceAdd, Nat.reduceLeDiff, Nat.reduceSub, Nat.reduceMul, Int.reduceEq, Nat.reduceBEq, t20, t21, t22, t18, hb11, hb12, hc23])
      exact ⟨false, h29 hc23, by (try simp only [go_sem, ↓reduceIte, Nat.reduceEqDiff, reduceCtorEq, Nat.reduceAdd, Nat.reduceLeDiff, Nat.reduceSub, Nat.reduceMul, Int.reduceEq, Nat.reduceBEq]), rfl⟩
  obtain ⟨x25, h, t34, hH35⟩ := hj33
  rw [hH35]
  have h := hk28 x25 h
  (try simp only [go_sem, ↓reduceIte, Nat.reduceEqDiff, reduceCtorEq, Nat.reduceAdd, Nat.reduceLeDiff, Nat.reduceSub, Nat.reduceMul, Int.reduceEq, Nat.reduceBEq, t34, hb11, hb12])
  exact retQ_r1 (by (try simp only [go_sem, ↓reduceIte, Nat.reduceEqDiff, reduceCtorEq, Nat.reduceAdd, Nat.reduceLeDiff, Nat.reduceSub, Nat.reduceMul, Int.reduceEq, Nat.reduceBEq, t34, hb11, hb12]) <;> rfl) H hL9.sub (hK _ h)
end Go.Proofs.Ytonmmfjagkgifaa
