/- Nets: the codes of what is asked. -/
import Derived.Test.YtonmmfjagkgifaaNet1
set_option linter.unusedVariables false
set_option linter.unusedSimpArgs false
namespace Go.Proofs.Ytonmmfjagkgifaa
open Go.RowKit
attribute [local go_sem] aw_mv aw_mkf aw_pick aw_bin aw_eqB aw_eqNil aw_eqAgg aw_un aw_conv aw_fa aw_ia aw_iaArr aw_ixArr aw_ixStr aw_fld aw_ext aw_bld aw_nilc aw_slc aw_slcArr aw_slcStr aw_len aw_cap aw_mnx aw_ld aw_st aw_guard_y aw_guard_n aw_nil aw_exit aw_ret aw_cond_t aw_cond_f aw_blk seqQ_norm seqQ_exit seqQ_ret blkQ_norm blkQ_exit_same blkQ_exit_ne blkQ_ret vPick_b vEqB_t vEqB_f vEqNil_sn vEqNil_ss vEqNil_pn vEqNil_ps vUn_neg vUn_not vUn_xor vConv_i vFa_p vIa_s vFld_a vExt_t vNilc_p vLen_s vLen_t vMnx_t vMnx_f abin_add abin_sub abin_mul abin_eql abin_neq abin_lss abin_leq abin_gtr abin_geq abin_and abin_or abin_xor abin_quo abin_rem abin_shl abin_shr abin_seq abin_sne abin_scat ev_tmp ev_const ev_func put_get puto_some puto_none args0_get List.getD_cons_succ List.getD_cons_zero Option.isSome_some Option.getD_some Option.isNone_none Option.isNone_some Option.map_some Option.map_none Value.bool.injEq Value.int.injEq add_mk aload_ptr rd_mk rdObj_row set_get astore_ptr apart_f apart_t List.length_cons List.length_nil List.drop_succ_cons List.drop_zero List.take_succ_cons List.take_zero List.map_cons List.map_nil Option.bind_some Option.bind_none ares_nil ares_tmp oneOf1 Nat.zero_add Nat.add_zero Bool.not_true Bool.not_false ne_eq not_false_eq_true not_true_eq_false decide_true decide_false Bool.true_and Bool.and_true Bool.false_eq_true and_self and_true true_and List.getElem?_cons_zero List.getElem?_cons_succ vc_agg vc_int vc_bool vc_slice aw_chk1 aw_chk2 st_agg st_int st_slice st_ptr one_int one_bool one_slice one_ptr one_str splice_eq aparts_nil aparts_cons afill_nil afill_cons rz0 rz1 rz2 List.all_cons List.all_nil Bool.and_self List.nil_append List.cons_append List.append_nil set_set

def netCode (n : NetD) (ss hs : List Int) : Int := if !validNet n then 1 else if ss.all (isSt n) && hs.all (fun x => within x 0 300) then 0 else 2
theorem spec_netCode (n : NetD) (s : Value) (hn : n.ok) {H : Hp} (hs : Sl H 4 s (n.lanes.map encLane)) {ss hs' : List Int} {sv hv : Value} (hsv : Sl H 1 sv (ss.map encI)) (hhv : Sl H 1 hv (hs'.map encI)) (K : Value → Hp → Prop) (hK : K (.int .i64 (netCode n ss hs')) H) :
    ACalls Go.Proofs.Try.prog n_impl_netCode #[.agg (encNet n s).toArray, sv, hv] H K := by
  refine acalls_go fn_impl_netCode rfl fun hl => ?_
  simp only [c_impl_netCode]
  rw [netRow]
  refine aw_boxv (by (try simp only [go_sem, ↓reduceIte, Nat.reduceEqDiff, reduceCtorEq, Nat.reduceAdd, Nat.reduceLeDiff, Nat.reduceSub, Nat.reduceMul, Int.reduceEq, Nat.reduceBEq]) <;> rfl) fun b hb => ?_
  simp only [go_sem, ↓reduceIte, Nat.reduceEqDiff, reduceCtorEq, Nat.reduceAdd, Nat.reduceLeDiff, Nat.reduceSub, Nat.reduceMul, Int.reduceEq, Nat.reduceBEq]
  refine aw_call (by (try simp only [go_sem, ↓reduceIte, Nat.reduceEqDiff, reduceCtorEq, Nat.reduceAdd, Nat.reduceLeDiff, Nat.reduceSub, Nat.reduceMul, Int.reduceEq, Nat.reduceBEq]) <;> rfl) (by (try simp only [go_sem, ↓reduceIte, Nat.reduceEqDiff, reduceCtorEq, Nat.reduceAdd, Nat.reduceLeDiff, Nat.reduceSub, Nat.reduceMul, Int.reduceEq, Nat.reduceBEq]) <;> rfl) (spec_ValidNet n s hn (hs.set hb) _ ?_)
  cases e1 : validNet n with
  | false =>
    simp only [go_sem, ↓reduceIte, Nat.reduceEqDiff, reduceCtorEq, Nat.reduceAdd, Nat.reduceLeDiff, Nat.reduceSub, Nat.reduceMul, Int.reduceEq, Nat.reduceBEq]
    refine retQ_r1 (by (try simp only [go_sem, ↓reduceIte, Nat.reduceEqDiff, reduceCtorEq, Nat.reduceAdd, Nat.reduceLeDiff, Nat.reduceSub, Nat.reduceMul, Int.reduceEq, Nat.reduceBEq]) <;> rfl) H (sub_set hb (Hp.sub.refl _)) ?_
    simpa [netCode, e1] using hK
  | true =>
    simp only [go_sem, ↓reduceIte, Nat.reduceEqDiff, reduceCtorEq, Nat.reduceAdd, Nat.reduceLeDiff, Nat.reduceSub, Nat.reduceMul, Int.reduceEq, Nat.reduceBEq]
    refine aw_call (by (try simp only [go_sem, ↓reduceIte, Nat.reduceEqDiff, reduceCtorEq, Nat.reduceAdd, Nat.reduceLeDiff, Nat.reduceSub, Nat.reduceMul, Int.reduceEq, Nat.reduceBEq]) <;> rfl) (by (try simp only [go_sem, ↓reduceIte, Nat.reduceEqDiff, reduceCtorEq, Nat.reduceAdd, Nat.reduceLeDiff, Nat.reduceSub, Nat.reduceMul, Int.reduceEq, Nat.reduceBEq]) <;> rfl) (containsFunc_spec (P := Go.Proofs.Try.prog) (agg := false) (sz := 1) (f := n_slices_ContainsFunc_int64) (fi := n_slices_IndexFunc_int64) fn_slices_ContainsFunc_int64 fn_slices_IndexFunc_int64 rfl encI (fun _ => rfl) (fun x => !isSt n x) ss (g := n_impl_netCode_1) (cp := [.pointer (some ⟨b, 0, none⟩)]) (hsv.set hb) ?_ ?_)
    · intro x hx K hK
      exact spec_netCode_1 n s x hn _ (b := b) (by rw [set_same]; rfl) K hK
    · have ea : (ss.any fun x => !isSt n x) = !ss.all (isSt n) := by simp [List.all_eq_not_any_not]
      rw [ea]
      cases e2 : ss.all (isSt n) with
      | false =>
        simp only [go_sem, ↓reduceIte, Nat.reduceEqDiff, reduceCtorEq, Nat.reduceAdd, Nat.reduceLeDiff, Nat.reduceSub, Nat.reduceMul, Int.reduceEq, Nat.reduceBEq]
        refine aw_call (by (try simp only [go_sem, ↓reduceIte, Nat.reduceEqDiff, reduceCtorEq, Nat.reduceAdd, Nat.reduceLeDiff, Nat.reduceSub, Nat.reduceMul, Int.reduceEq, Nat.reduceBEq]) <;> rfl) (by (try simp only [go_sem, ↓reduceIte, Nat.reduceEqDiff, reduceCtorEq, Nat.reduceAdd, Nat.reduceLeDiff, Nat.reduceSub, Nat.reduceMul, Int.reduceEq, Nat.reduceBEq]) <;> rfl) (spec_unless _ _ _ _ ?_)
        simp only [go_sem, ↓reduceIte, Nat.reduceEqDiff, reduceCtorEq, Nat.reduceAdd, Nat.reduceLeDiff, Nat.reduceSub, Nat.reduceMul, Int.reduceEq, Nat.reduceBEq]
        refine retQ_r1 (by (try simp only [go_sem, ↓reduceIte, Nat.reduceEqDiff, reduceCtorEq, Nat.reduceAdd, Nat.reduceLeDiff, Nat.reduceSub, Nat.reduceMul, Int.reduceEq, Nat.reduceBEq]) <;> rfl) H (sub_set hb (Hp.sub.refl _)) ?_
        simpa only [netCode, e1, e2, Bool.not_true, Bool.false_and, Bool.false_eq_true, if_false] using hK
      | true =>
        simp only [go_sem, ↓reduceIte, Nat.reduceEqDiff, reduceCtorEq, Nat.reduceAdd, Nat.reduceLeDiff, Nat.reduceSub, Nat.reduceMul, Int.reduceEq, Nat.reduceBEq]
        refine aw_call (by (try simp only [go_sem, ↓reduceIte, Nat.reduceEqDiff, reduceCtorEq, Nat.reduceAdd, Nat.reduceLeDiff, Nat.reduceSub, Nat.reduceMul, Int.reduceEq, Nat.reduceBEq]) <;> rfl) (by (try simp only [go_sem, ↓reduceIte, Nat.reduceEqDiff, reduceCtorEq, Nat.reduceAdd, Nat.reduceLeDiff, Nat.reduceSub, Nat.reduceMul, Int.reduceEq, Nat.reduceBEq]) <;> rfl) (spec_areWithin hs' 0 300 (hhv.set hb) _ ?_)
        simp only [go_sem, ↓reduceIte, Nat.reduceEqDiff, reduceCtorEq, Nat.reduceAdd, Nat.reduceLeDiff, Nat.reduceSub, Nat.reduceMul, Int.reduceEq, Nat.reduceBEq]
        refine aw_call (by (try simp only [go_sem, ↓reduceIte, Nat.reduceEqDiff, reduceCtorEq, Nat.reduceAdd, Nat.reduceLeDiff, Nat.reduceSub, Nat.reduceMul, Int.reduceEq, Nat.reduceBEq]) <;> rfl) (by (try simp only [go_sem, ↓reduceIte, Nat.reduceEqDiff, reduceCtorEq, Nat.reduceAdd, Nat.reduceLeDiff, Nat.reduceSub, Nat.reduceMul, Int.reduceEq, Nat.reduceBEq]) <;> rfl) (spec_unless _ _ _ _ ?_)
        simp only [go_sem, ↓reduceIte, Nat.reduceEqDiff, reduceCtorEq, Nat.reduceAdd, Nat.reduceLeDiff, Nat.reduceSub, Nat.reduceMul, Int.reduceEq, Nat.reduceBEq]
        refine retQ_r1 (by (try simp only [go_sem, ↓reduceIte, Nat.reduceEqDiff, reduceCtorEq, Nat.reduceAdd, Nat.reduceLeDiff, Nat.reduceSub, Nat.reduceMul, Int.reduceEq, Nat.reduceBEq]) <;> rfl) H (sub_set hb (Hp.sub.refl _)) ?_
        simpa only [netCode, e1, e2, Bool.not_true, Bool.true_and, Bool.false_eq_true, if_false] using hK

def encScan (a : Int × Int) : List Value := [.int .i8 a.1, .int .i16 a.2]
def okScan (a : Int × Int) : Prop := (-128 ≤ a.1 ∧ a.1 ≤ 127) ∧ (-32768 ≤ a.2 ∧ a.2 ≤ 32767)
theorem spec_scanCode (n : NetD) (s : Value) (hn : n.ok) {H : Hp} (hs : Sl H 4 s (n.lanes.map encLane)) {scs : List (Int × Int)} (hok : ∀ a ∈ scs, okScan a) (hfew : scs.length ≤ 1000) {sv : Value} (hsv : Sl H 2 sv (scs.map encScan)) (K : Value → Hp → Prop) (hK : K (.int .i64 (netCode n (scs.map (·.1)) (scs.map (·.2)))) H) :
    ACalls Go.Proofs.Try.prog n_impl_scanCode #[.agg (encNet n s).toArray, sv] H K := by
  refine acalls_go fn_impl_scanCode rfl fun hl => ?_
  simp only [c_impl_scanCode]
  rw [netRow]
  refine aw_boxv (by (try simp only [go_sem, ↓reduceIte, Nat.reduceEqDiff, reduceCtorEq, Nat.reduceAdd, Nat.reduceLeDiff, Nat.reduceSub, Nat.reduceMul, Int.reduceEq, Nat.reduceBEq]) <;> rfl) fun b hb => ?_
  simp only [go_sem, ↓reduceIte, Nat.reduceEqDiff, reduceCtorEq, Nat.reduceAdd, Nat.reduceLeDiff, Nat.reduceSub, Nat.reduceMul, Int.reduceEq, Nat.reduceBEq]
  refine aw_bsl rfl fun b9 hb9 => ?_
  refine aw_bsl rfl fun b10 hb10 => ?_
  have n9 := ne_set hb9
  have n10 := ne_set hb10
  have n10' := ne_set (none_set hb10)
  have hlen := hsv.len
  rw [List.length_map] at hlen
  simp only [go_sem, ↓reduceIte, Nat.reduceEqDiff, reduceCtorEq, Nat.reduceAdd, Nat.reduceLeDiff, Nat.reduceSub, Nat.reduceMul, Int.reduceEq, Nat.reduceBEq, hlen]
  generalize hH0 : H.set b (.row true 35 [.int .i8 n.st, .int .i16 n.stay, s] 3) = H0 at *
  have hl0 : Live H0 := by rw [← hH0]; exact (by repeat (first | (with_reducible assumption) | (with_reducible apply Live.set) | (simp [gc_len]; done) | exact Nat.le_refl _))
  refine aw_range (by repeat (first | (with_reducible assumption) | (with_reducible apply Live.set) | (simp [gc_len]; done) | exact Nat.le_refl _)) scs.length (by omega) (fun i T' H' => H0.sub H' ∧ ∃ b5 b6, b5 ≠ b6 ∧ H0 b5 = none ∧ H0 b6 = none ∧ Own H' b5 2 1 (T' 5) ((scs.take i).map fun a => encI a.1) ∧ Own H' b6 2 1 (T' 6) ((scs.take i).map fun a => encI a.2)) _ (Hp.sub.refl _) (by (try simp only [go_sem, ↓reduceIte, Nat.reduceEqDiff, reduceCtorEq, Nat.reduceAdd, Nat.reduceLeDiff, Nat.reduceSub, Nat.reduceMul, Int.reduceEq, Nat.reduceBEq]) <;> rfl) (by (try simp only [go_sem, ↓reduceIte, Nat.reduceEqDiff, reduceCtorEq, Nat.reduceAdd, Nat.reduceLeDiff, Nat.reduceSub, Nat.reduceMul, Int.reduceEq, Nat.reduceBEq, hlen]) <;> rfl) ?_ rfl rfl (by decide) (by decide) ?_ ?_
  · refine ⟨sub_set hb10 (sub_set hb9 (Hp.sub.refl _)), b9, b10, n10, hb9, none_set hb10, ?_, ?_⟩
    · exact Own.made [] rfl (by simp) (by rw [set_ne n10, set_same]; rfl) rfl
    · exact Own.made [] rfl (by simp) (by rw [set_same]; rfl) rfl
  · rintro i T' H' hi hl' hoff hTi ⟨hsub, b5, b6, h56, h5, h6, ho5, ho6⟩
    have hsH : H.sub H0 := by rw [← hH0]; exact sub_set hb (Hp.sub.refl _)
    have h11 : T' 11 = sv := by rw [hoff.get rfl]; simp only [go_sem, ↓reduceIte, Nat.reduceEqDiff, reduceCtorEq, Nat.reduceAdd, Nat.reduceLeDiff, Nat.reduceSub, Nat.reduceMul, Int.reduceEq, Nat.reduceBEq]
    obtain ⟨bb, off, hia, hrd⟩ := (hsv.sub (hsH.trans hsub)).at (k := .i64) (i := (i : Int)) (by omega) (by simp; omega)
    have hrow : (scs.map encScan).getD (i : Int).toNat [] = encScan scs[i] := by simp [List.getD_eq_getElem?_getD, hi]
    rw [hrow] at hrd
    have hok1 := hok scs[i] (by simp)
    have w1 : IntKind.i64.wrap scs[i].1 = scs[i].1 := wrap_i64 (by have := hok1.1; omega) (by have := hok1.1; omega)
    have w2 : IntKind.i64.wrap scs[i].2 = scs[i].2 := wrap_i64 (by have := hok1.2; omega) (by have := hok1.2; omega)
    simp only [encScan] at hrd
    simp only [go_sem, ↓reduceIte, Nat.reduceEqDiff, reduceCtorEq, Nat.reduceAdd, Nat.reduceLeDiff, Nat.reduceSub, Nat.reduceMul, Int.reduceEq, Nat.reduceBEq, h11, hTi, hia, hrd]
    refine aw_alloc fun b8 hb8 => ?_
    simp only [go_sem, ↓reduceIte, Nat.reduceEqDiff, reduceCtorEq, Nat.reduceAdd, Nat.reduceLeDiff, Nat.reduceSub, Nat.reduceMul, Int.reduceEq, Nat.reduceBEq, h11, hTi, hia, hrd, w1, w2]
    refine aw_bsl (by (try simp only [go_sem, ↓reduceIte, Nat.reduceEqDiff, reduceCtorEq, Nat.reduceAdd, Nat.reduceLeDiff, Nat.reduceSub, Nat.reduceMul, Int.reduceEq, Nat.reduceBEq]) <;> rfl) fun b21 hb21 => ?_
    obtain ⟨o5, e5⟩ := ho5.blk
    obtain ⟨o6, e6⟩ := ho6.blk
    have x1 := some_ne e5 hb8
    have x2 := some_ne e5 (none_set hb21)
    have x3 := some_ne e6 hb8
    have x4 := some_ne e6 (none_set hb21)
    have x5 := ne_set hb21
    refine aw_app_own (by (try simp only [go_sem, ↓reduceIte, Nat.reduceEqDiff, reduceCtorEq, Nat.reduceAdd, Nat.reduceLeDiff, Nat.reduceSub, Nat.reduceMul, Int.reduceEq, Nat.reduceBEq]) <;> rfl) (by (try simp only [go_sem, ↓reduceIte, Nat.reduceEqDiff, reduceCtorEq, Nat.reduceAdd, Nat.reduceLeDiff, Nat.reduceSub, Nat.reduceMul, Int.reduceEq, Nat.reduceBEq]) <;> rfl) (ho5.off (by rw [set_ne x2, set_ne x1])) (anew1 (by omega) (by rw [set_same]; exact (by (try simp only [go_sem, ↓reduceIte, Nat.reduceEqDiff, reduceCtorEq, Nat.reduceAdd, Nat.reduceLeDiff, Nat.reduceSub, Nat.reduceMul, Int.reduceEq, Nat.reduceBEq]) <;> rfl))) rfl rfl (by simp; omega) (by simp; omega) fun c5 v5 H5 hc5 hoff5 ho5' => ?_
    have y1 : c5 ≠ b8 := by
      rcases hc5 with rfl | hc5
      · exact x1
      · intro e; subst e; rw [set_ne x5, set_same] at hc5; cases hc5
    have y2 : c5 ≠ b6 := by
      rcases hc5 with rfl | hc5
      · exact h56
      · intro e; subst e; rw [set_ne x4, set_ne x3, e6] at hc5; cases hc5
    have h8 : H5 b8 = some (.row true 37 [.int .i8 scs[i].1, .int .i16 scs[i].2] 2) := by rw [hoff5 _ (Ne.symm y1), set_ne x5, set_same]
    simp only [go_sem, ↓reduceIte, Nat.reduceEqDiff, reduceCtorEq, Nat.reduceAdd, Nat.reduceLeDiff, Nat.reduceSub, Nat.reduceMul, Int.reduceEq, Nat.reduceBEq, h8, w2]
    refine aw_bsl (by (try simp only [go_sem, ↓reduceIte, Nat.reduceEqDiff, reduceCtorEq, Nat.reduceAdd, Nat.reduceLeDiff, Nat.reduceSub, Nat.reduceMul, Int.reduceEq, Nat.reduceBEq]) <;> rfl) fun b27 hb27 => ?_
    have z1 : H5 b6 = H' b6 := by rw [hoff5 _ (Ne.symm y2), set_ne x4, set_ne x3]
    have z2 : b6 ≠ b27 := some_ne (by rw [z1]; exact e6) hb27
    obtain ⟨o5', e5'⟩ := ho5'.blk
    have z3 := some_ne e5' hb27
    refine aw_app_own (by (try simp only [go_sem, ↓reduceIte, Nat.reduceEqDiff, reduceCtorEq, Nat.reduceAdd, Nat.reduceLeDiff, Nat.reduceSub, Nat.reduceMul, Int.reduceEq, Nat.reduceBEq]) <;> rfl) (by (try simp only [go_sem, ↓reduceIte, Nat.reduceEqDiff, reduceCtorEq, Nat.reduceAdd, Nat.reduceLeDiff, Nat.reduceSub, Nat.reduceMul, Int.reduceEq, Nat.reduceBEq]) <;> rfl) (ho6.off (by rw [set_ne z2, z1])) (anew1 (by omega) (by rw [set_same]; exact (by (try simp only [go_sem, ↓reduceIte, Nat.reduceEqDiff, reduceCtorEq, Nat.reduceAdd, Nat.reduceLeDiff, Nat.reduceSub, Nat.reduceMul, Int.reduceEq, Nat.reduceBEq]) <;> rfl))) rfl rfl (by simp; omega) (by simp; omega) fun c6 v6 H6 hc6 hoff6 ho6' => ?_
    have y3 : c5 ≠ c6 := by
      rcases hc6 with rfl | hc6
      · exact y2
      · intro e; subst e; rw [set_ne z3, e5'] at hc6; cases hc6
    have hs1 : H0.sub ((H'.set b8 (.row true 37 [.int .i8 scs[i].1, .int .i16 scs[i].2] 2)).set b21 (.row true 2 [.int .i64 scs[i].1] 1)) := sub_set hb21 (sub_set hb8 hsub)
    have g5 : H0 c5 = none := by
      rcases hc5 with rfl | hc5
      · exact h5
      · exact sub_none hs1 hc5
    have hs2 : H0.sub (H5.set b27 (.row true 2 [.int .i64 scs[i].2] 1)) := sub_set hb27 (sub_off hs1 g5 hoff5)
    have g6 : H0 c6 = none := by
      rcases hc6 with rfl | hc6
      · exact h6
      · exact sub_none hs2 hc6
    have ht : ∀ (f : Int × Int → List Value), (scs.take i).map f ++ [f scs[i]] = (scs.take (i + 1)).map f := fun f => by rw [List.take_succ_eq_append_getElem hi, List.map_append]; rfl
    simp only [go_sem, ↓reduceIte, Nat.reduceEqDiff, reduceCtorEq, Nat.reduceAdd, Nat.reduceLeDiff, Nat.reduceSub, Nat.reduceMul, Int.reduceEq, Nat.reduceBEq]
    refine ⟨H6, Hp.sub.refl _, sub_off hs2 g6 hoff6, c5, c6, y3, g5, g6, ?_, ?_⟩
    · rw [← ht]; exact ho5'.off (by rw [hoff6 _ y3, set_ne z3])
    · rw [← ht]; exact ho6'
  · rintro T' H' hl' hoff hTi ⟨hsub, b5, b6, h56, h5, h6, ho5, ho6⟩
    have hb2 : H0 b = some (.row true 35 [.int .i8 n.st, .int .i16 n.stay, s] 3) := by rw [← hH0, set_same]
    have h2 : T' 2 = .pointer (some ⟨b, 0, none⟩) := by rw [hoff.get rfl]; simp only [go_sem, ↓reduceIte, Nat.reduceEqDiff, reduceCtorEq, Nat.reduceAdd, Nat.reduceLeDiff, Nat.reduceSub, Nat.reduceMul, Int.reduceEq, Nat.reduceBEq]
    have hb2' := hsub _ _ hb2
    rw [List.take_of_length_le (Nat.le_refl _)] at ho5 ho6
    have hsH : H.sub H0 := by rw [← hH0]; exact sub_set hb (Hp.sub.refl _)
    simp only [go_sem, ↓reduceIte, Nat.reduceEqDiff, reduceCtorEq, Nat.reduceAdd, Nat.reduceLeDiff, Nat.reduceSub, Nat.reduceMul, Int.reduceEq, Nat.reduceBEq, h2, hb2']
    refine aw_call (by (try simp only [go_sem, ↓reduceIte, Nat.reduceEqDiff, reduceCtorEq, Nat.reduceAdd, Nat.reduceLeDiff, Nat.reduceSub, Nat.reduceMul, Int.reduceEq, Nat.reduceBEq]) <;> rfl) (by (try simp only [go_sem, ↓reduceIte, Nat.reduceEqDiff, reduceCtorEq, Nat.reduceAdd, Nat.reduceLeDiff, Nat.reduceSub, Nat.reduceMul, Int.reduceEq, Nat.reduceBEq]) <;> rfl) (spec_netCode n s hn (hs.sub (hsH.trans hsub)) (ss := scs.map (·.1)) (hs' := scs.map (·.2)) (by rw [List.map_map]; exact ho5.sl (by omega) (by simp; omega)) (by rw [List.map_map]; exact ho6.sl (by omega) (by simp; omega)) _ ?_)
    simp only [go_sem, ↓reduceIte, Nat.reduceEqDiff, reduceCtorEq, Nat.reduceAdd, Nat.reduceLeDiff, Nat.reduceSub, Nat.reduceMul, Int.reduceEq, Nat.reduceBEq]
    exact retQ_r1 (by (try simp only [go_sem, ↓reduceIte, Nat.reduceEqDiff, reduceCtorEq, Nat.reduceAdd, Nat.reduceLeDiff, Nat.reduceSub, Nat.reduceMul, Int.reduceEq, Nat.reduceBEq]) <;> rfl) H (hsH.trans hsub) hK
end Go.Proofs.Ytonmmfjagkgifaa
