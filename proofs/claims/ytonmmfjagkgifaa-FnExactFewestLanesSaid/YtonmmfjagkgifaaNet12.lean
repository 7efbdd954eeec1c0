/- Nets: the reference's times in common. -/
import Derived.Test.YtonmmfjagkgifaaNet11
set_option linter.unusedVariables false
set_option linter.unusedSimpArgs false
namespace Go.Proofs.Ytonmmfjagkgifaa
open Go.RowKit
attribute [local go_sem] aw_mv aw_mkf aw_pick aw_bin aw_eqB aw_eqNil aw_eqAgg aw_un aw_conv aw_fa aw_ia aw_iaArr aw_ixArr aw_ixStr aw_fld aw_ext aw_bld aw_nilc aw_slc aw_slcArr aw_slcStr aw_len aw_cap aw_mnx aw_ld aw_st aw_guard_y aw_guard_n aw_nil aw_exit aw_ret aw_cond_t aw_cond_f aw_blk seqQ_norm seqQ_exit seqQ_ret blkQ_norm blkQ_exit_same blkQ_exit_ne blkQ_ret vPick_b vEqB_t vEqB_f vEqNil_sn vEqNil_ss vEqNil_pn vEqNil_ps vUn_neg vUn_not vUn_xor vConv_i vFa_p vIa_s vFld_a vExt_t vNilc_p vLen_s vLen_t vMnx_t vMnx_f abin_add abin_sub abin_mul abin_eql abin_neq abin_lss abin_leq abin_gtr abin_geq abin_and abin_or abin_xor abin_quo abin_rem abin_shl abin_shr abin_seq abin_sne abin_scat ev_tmp ev_const ev_func put_get puto_some puto_none args0_get List.getD_cons_succ List.getD_cons_zero Option.isSome_some Option.getD_some Option.isNone_none Option.isNone_some Option.map_some Option.map_none Value.bool.injEq Value.int.injEq add_mk aload_ptr rd_mk rdObj_row set_get astore_ptr apart_f apart_t List.length_cons List.length_nil List.drop_succ_cons List.drop_zero List.take_succ_cons List.take_zero List.map_cons List.map_nil Option.bind_some Option.bind_none ares_nil ares_tmp oneOf1 Nat.zero_add Nat.add_zero Bool.not_true Bool.not_false ne_eq not_false_eq_true not_true_eq_false decide_true decide_false Bool.true_and Bool.and_true Bool.false_eq_true and_self and_true true_and List.getElem?_cons_zero List.getElem?_cons_succ vc_agg vc_int vc_bool vc_slice aw_chk1 aw_chk2 st_agg st_int st_slice st_ptr one_int one_bool one_slice one_ptr one_str splice_eq aparts_nil aparts_cons afill_nil afill_cons rz0 rz1 rz2 List.all_cons List.all_nil Bool.and_self List.nil_append List.cons_append List.append_nil set_set

def meetG (a c : Nat → Bool) : Bool := (List.range 8).any fun s => (List.range 301).any fun h => a (s * 301 + h) && c (s * 301 + h)
theorem spec_l07Meet (a c : Nat → Bool) {H : Hp} {b0 ty0 tot0 b1 ty1 tot1 : Nat} {own0 own1 : Bool} (hb0 : H b0 = some (.row own0 ty0 (gcells 2408 a) tot0)) (hb1 : H b1 = some (.row own1 ty1 (gcells 2408 c) tot1)) (K : Value → Hp → Prop) (hK : K (.bool (meetG a c)) H) :
    ACalls Go.Proofs.Try.prog n_spec_l07Meet #[.pointer (some ⟨b0, 0, none⟩), .pointer (some ⟨b1, 0, none⟩)] H K := by
  refine acalls_go fn_spec_l07Meet rfl fun hl => ?_
  simp only [c_spec_l07Meet]
  simp only [go_sem, ↓reduceIte, Nat.reduceEqDiff, reduceCtorEq, Nat.reduceAdd, Nat.reduceLeDiff, Nat.reduceSub, Nat.reduceMul, Int.reduceEq, Nat.reduceBEq]
  refine aw_forN hl 8 (by omega) 0 (by omega) (fun s T' H' => H' = H ∧ ∀ s', s' < s → ∀ h, h < 301 → (a (s' * 301 + h) && c (s' * 301 + h)) = false) H (Hp.sub.refl _) (by (try simp only [go_sem, ↓reduceIte, Nat.reduceEqDiff, reduceCtorEq, Nat.reduceAdd, Nat.reduceLeDiff, Nat.reduceSub, Nat.reduceMul, Int.reduceEq, Nat.reduceBEq]) <;> rfl) ⟨rfl, fun _ h => absurd h (by omega)⟩ (fun h T' hh hoff' => ?_) rfl (by decide) (by decide) ?_ ?_
  · rw [ev_const, abin_lss]
    exact congrArg (fun z => some (Value.bool z)) (decide_eq_decide.2 (by omega))
  · rintro s T' H' hs hl' hoff hTs ⟨rfl, hno⟩
    have t0 : T' 0 = .pointer (some ⟨b0, 0, none⟩) := by rw [hoff.get rfl]; simp only [go_sem, ↓reduceIte, Nat.reduceEqDiff, reduceCtorEq, Nat.reduceAdd, Nat.reduceLeDiff, Nat.reduceSub, Nat.reduceMul, Int.reduceEq, Nat.reduceBEq]
    have t1 : T' 1 = .pointer (some ⟨b1, 0, none⟩) := by rw [hoff.get rfl]; simp only [go_sem, ↓reduceIte, Nat.reduceEqDiff, reduceCtorEq, Nat.reduceAdd, Nat.reduceLeDiff, Nat.reduceSub, Nat.reduceMul, Int.reduceEq, Nat.reduceBEq]
    simp only [go_sem, ↓reduceIte, Nat.reduceEqDiff, reduceCtorEq, Nat.reduceAdd, Nat.reduceLeDiff, Nat.reduceSub, Nat.reduceMul, Int.reduceEq, Nat.reduceBEq]
    refine aw_forN hl' 301 (by omega) 0 (by omega) (fun h T2 H2 => H2 = H' ∧ ∀ h', h' < h → (a (s * 301 + h') && c (s * 301 + h')) = false) H' (Hp.sub.refl _) (by (try simp only [go_sem, ↓reduceIte, Nat.reduceEqDiff, reduceCtorEq, Nat.reduceAdd, Nat.reduceLeDiff, Nat.reduceSub, Nat.reduceMul, Int.reduceEq, Nat.reduceBEq]) <;> rfl) ⟨rfl, fun _ h => absurd h (by omega)⟩ (fun h T' hh hoff' => ?_) rfl (by decide) (by decide) ?_ ?_
    · rw [ev_const, abin_leq]
      exact congrArg (fun z => some (Value.bool z)) (decide_eq_decide.2 (by omega))
    · rintro h T2 H2 hh hl2 hoff2 hTh ⟨rfl, hno2⟩
      have u0 : T2 0 = .pointer (some ⟨b0, 0, none⟩) := by rw [hoff2.get rfl]; simp only [go_sem, ↓reduceIte, Nat.reduceEqDiff, reduceCtorEq, Nat.reduceAdd, Nat.reduceLeDiff, Nat.reduceSub, Nat.reduceMul, Int.reduceEq, Nat.reduceBEq, t0]
      have u1 : T2 1 = .pointer (some ⟨b1, 0, none⟩) := by rw [hoff2.get rfl]; simp only [go_sem, ↓reduceIte, Nat.reduceEqDiff, reduceCtorEq, Nat.reduceAdd, Nat.reduceLeDiff, Nat.reduceSub, Nat.reduceMul, Int.reduceEq, Nat.reduceBEq, t1]
      have u5 : T2 5 = .int .i64 s := by rw [hoff2.get rfl]; simp only [go_sem, ↓reduceIte, Nat.reduceEqDiff, reduceCtorEq, Nat.reduceAdd, Nat.reduceLeDiff, Nat.reduceSub, Nat.reduceMul, Int.reduceEq, Nat.reduceBEq, hTs]
      have p1 := ptr_ix 8 301 b0 0 .i64 (s : Int) s rfl hs
      have p2 := ptr_ix 301 1 b0 (0 + s * 301) .i64 (h : Int) h rfl hh
      have p3 := ptr_ix 8 301 b1 0 .i64 (s : Int) s rfl hs
      have p4 := ptr_ix 301 1 b1 (0 + s * 301) .i64 (h : Int) h rfl hh
      have r1 := gc_rd1 own0 ty0 2408 tot0 a (0 + s * 301 + h * 1) (by omega)
      have r2 := gc_rd1 own1 ty1 2408 tot1 c (0 + s * 301 + h * 1) (by omega)
      simp only [Nat.zero_add, Nat.mul_one] at p1 p2 p3 p4 r1 r2
      cases ea : a (s * 301 + h) with
      | false =>
        rw [ea] at r1
        simp only [go_sem, ↓reduceIte, Nat.reduceEqDiff, reduceCtorEq, Nat.reduceAdd, Nat.reduceLeDiff, Nat.reduceSub, Nat.reduceMul, Int.reduceEq, Nat.reduceBEq, u0, u1, u5, hTh, hb0, hb1, p1, p2, r1]
        refine ⟨H2, Hp.sub.refl _, rfl, fun h' hh' => ?_⟩
        by_cases e : h' = h
        · subst e; simp [ea]
        · exact hno2 h' (by omega)
      | true =>
        rw [ea] at r1
        cases ec : c (s * 301 + h) with
        | false =>
          rw [ec] at r2
          simp only [go_sem, ↓reduceIte, Nat.reduceEqDiff, reduceCtorEq, Nat.reduceAdd, Nat.reduceLeDiff, Nat.reduceSub, Nat.reduceMul, Int.reduceEq, Nat.reduceBEq, u0, u1, u5, hTh, hb0, hb1, p1, p2, p3, p4, r1, r2]
          refine ⟨H2, Hp.sub.refl _, rfl, fun h' hh' => ?_⟩
          by_cases e : h' = h
          · subst e; simp [ec]
          · exact hno2 h' (by omega)
        | true =>
          rw [ec] at r2
          simp only [go_sem, ↓reduceIte, Nat.reduceEqDiff, reduceCtorEq, Nat.reduceAdd, Nat.reduceLeDiff, Nat.reduceSub, Nat.reduceMul, Int.reduceEq, Nat.reduceBEq, u0, u1, u5, hTh, hb0, hb1, p1, p2, p3, p4, r1, r2]
          rw [show meetG a c = true from List.any_eq_true.2 ⟨s, by simpa using hs, List.any_eq_true.2 ⟨h, by simpa using hh, by simp [ea, ec]⟩⟩] at hK
          exact retQ_r1 (by (try simp only [go_sem, ↓reduceIte, Nat.reduceEqDiff, reduceCtorEq, Nat.reduceAdd, Nat.reduceLeDiff, Nat.reduceSub, Nat.reduceMul, Int.reduceEq, Nat.reduceBEq]) <;> rfl) H2 (Hp.sub.refl _) hK
    · rintro T2 H2 hl2 hoff2 hTh ⟨rfl, hno2⟩
      simp only [go_sem, ↓reduceIte, Nat.reduceEqDiff, reduceCtorEq, Nat.reduceAdd, Nat.reduceLeDiff, Nat.reduceSub, Nat.reduceMul, Int.reduceEq, Nat.reduceBEq]
      refine ⟨H2, Hp.sub.refl _, rfl, fun s' hs' h hh => ?_⟩
      by_cases e : s' = s
      · subst e; exact hno2 h hh
      · exact hno s' (by omega) h hh
  · rintro T' H' hl' hoff hTs ⟨rfl, hno⟩
    simp only [go_sem, ↓reduceIte, Nat.reduceEqDiff, reduceCtorEq, Nat.reduceAdd, Nat.reduceLeDiff, Nat.reduceSub, Nat.reduceMul, Int.reduceEq, Nat.reduceBEq]
    rw [show meetG a c = false from List.any_eq_false.2 fun s hs => by
      rw [show ((List.range 301).any fun h => a (s * 301 + h) && c (s * 301 + h)) = false from List.any_eq_false.2 fun h hh => by rw [hno s (by simpa using hs) h (by simpa using hh)]; simp]; simp] at hK
    exact retQ_r1 (by (try simp only [go_sem, ↓reduceIte, Nat.reduceEqDiff, reduceCtorEq, Nat.reduceAdd, Nat.reduceLeDiff, Nat.reduceSub, Nat.reduceMul, Int.reduceEq, Nat.reduceBEq]) <;> rfl) H' (Hp.sub.refl _) hK
end Go.Proofs.Ytonmmfjagkgifaa
