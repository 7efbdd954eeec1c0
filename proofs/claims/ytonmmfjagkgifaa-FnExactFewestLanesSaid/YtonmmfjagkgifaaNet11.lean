/- Nets: the reference's arrivals by one lane more to a station; times in common. -/
import Derived.Test.YtonmmfjagkgifaaNet10
set_option linter.unusedVariables false
set_option linter.unusedSimpArgs false
namespace Go.Proofs.Ytonmmfjagkgifaa
open Go.RowKit
attribute [local go_sem] aw_mv aw_mkf aw_pick aw_bin aw_eqB aw_eqNil aw_eqAgg aw_un aw_conv aw_fa aw_ia aw_iaArr aw_ixArr aw_ixStr aw_fld aw_ext aw_bld aw_nilc aw_slc aw_slcArr aw_slcStr aw_len aw_cap aw_mnx aw_ld aw_st aw_guard_y aw_guard_n aw_nil aw_exit aw_ret aw_cond_t aw_cond_f aw_blk seqQ_norm seqQ_exit seqQ_ret blkQ_norm blkQ_exit_same blkQ_exit_ne blkQ_ret vPick_b vEqB_t vEqB_f vEqNil_sn vEqNil_ss vEqNil_pn vEqNil_ps vUn_neg vUn_not vUn_xor vConv_i vFa_p vIa_s vFld_a vExt_t vNilc_p vLen_s vLen_t vMnx_t vMnx_f abin_add abin_sub abin_mul abin_eql abin_neq abin_lss abin_leq abin_gtr abin_geq abin_and abin_or abin_xor abin_quo abin_rem abin_shl abin_shr abin_seq abin_sne abin_scat ev_tmp ev_const ev_func put_get puto_some puto_none args0_get List.getD_cons_succ List.getD_cons_zero Option.isSome_some Option.getD_some Option.isNone_none Option.isNone_some Option.map_some Option.map_none Value.bool.injEq Value.int.injEq add_mk aload_ptr rd_mk rdObj_row set_get astore_ptr apart_f apart_t List.length_cons List.length_nil List.drop_succ_cons List.drop_zero List.take_succ_cons List.take_zero List.map_cons List.map_nil Option.bind_some Option.bind_none ares_nil ares_tmp oneOf1 Nat.zero_add Nat.add_zero Bool.not_true Bool.not_false ne_eq not_false_eq_true not_true_eq_false decide_true decide_false Bool.true_and Bool.and_true Bool.false_eq_true and_self and_true true_and List.getElem?_cons_zero List.getElem?_cons_succ vc_agg vc_int vc_bool vc_slice aw_chk1 aw_chk2 st_agg st_int st_slice st_ptr one_int one_bool one_slice one_ptr one_str splice_eq aparts_nil aparts_cons afill_nil afill_cons rz0 rz1 rz2 List.all_cons List.all_nil Bool.and_self List.nil_append List.cons_append List.append_nil set_set

def toSt (st : Nat) (l : LaneD) : Bool := decide (l.to = st)
theorem spec_l07Step (n : NetD) (s : Value) (hv : validNet n = true) (hok : n.ok) (a : Nat → Bool) (st : Nat) {H : Hp} (hs : Sl H 4 s (n.lanes.map encLane)) {b2 ty2 tot2 b3 ty3 tot3 : Nat} {own2 own3 : Bool} (hb2 : H b2 = some (.row own2 ty2 (encNet n s) tot2)) (hb3 : H b3 = some (.row own3 ty3 (gcells 2408 a) tot3)) (K : Value → Hp → Prop)
    (hK : ∀ b, H b = none → K (.pointer (some ⟨b, 0, none⟩)) (H.set b (.row true 80 (gcells 2408 (stepL n a (n.lanes.filter (toSt st)))) 2408))) :
    ACalls Go.Proofs.Try.prog n_spec_l07Step #[.pointer (some ⟨b2, 0, none⟩), .pointer (some ⟨b3, 0, none⟩), .int .i64 st] H K := by
  refine acalls_go fn_spec_l07Step rfl fun hl => ?_
  simp only [c_spec_l07Step, gc_zero]
  have hb20 := hb2
  rw [netRow] at hb2
  have hlen := hs.len
  have hle := hs.le
  rw [List.length_map] at hlen hle
  simp only [go_sem, ↓reduceIte, Nat.reduceEqDiff, reduceCtorEq, Nat.reduceAdd, Nat.reduceLeDiff, Nat.reduceSub, Nat.reduceMul, Int.reduceEq, Nat.reduceBEq, gc_rdall, gc_apart, gc_stall, gc_len, vBld_nil]
  refine aw_boxv (by (try simp only [go_sem, ↓reduceIte, Nat.reduceEqDiff, reduceCtorEq, Nat.reduceAdd, Nat.reduceLeDiff, Nat.reduceSub, Nat.reduceMul, Int.reduceEq, Nat.reduceBEq]) <;> rfl) fun b5 z5 => ?_
  rw [gc_vc, gc_len] at *
  have x5 := some_ne hb3 z5
  have x6 := some_ne hb2 z5
  simp only [go_sem, ↓reduceIte, Nat.reduceEqDiff, reduceCtorEq, Nat.reduceAdd, Nat.reduceLeDiff, Nat.reduceSub, Nat.reduceMul, Int.reduceEq, Nat.reduceBEq]
  have hsubL : H.sub (H.set b5 (.row true 80 (gcells 2408 fun x => false) 2408)) := sub_set z5 (Hp.sub.refl _)
  have g2 : (H.set b5 (.row true 80 (gcells 2408 fun x => false) 2408)) b2 = some (.row own2 ty2 [.int .i8 n.st, .int .i16 n.stay, s] tot2) := by rw [set_ne x6]; exact hb2
  have g3 : (H.set b5 (.row true 80 (gcells 2408 fun x => false) 2408)) b3 = some (.row own3 ty3 (gcells 2408 a) tot3) := by rw [set_ne x5]; exact hb3
  have g5 : (H.set b5 (.row true 80 (gcells 2408 fun x => false) 2408)) b5 = some (.row true 80 (gcells 2408 fun x => false) 2408) := by rw [set_same]
  have hlL : Live (H.set b5 (.row true 80 (gcells 2408 fun x => false) 2408)) := Live.set hl _ _ _ _ (Nat.le_of_eq (gc_len _ _))
  generalize (H.set b5 (.row true 80 (gcells 2408 fun x => false) 2408)) = HL at *
  refine aw_loopM hlL (fun m T' H' => ∃ i : Nat, i ≤ n.lanes.length ∧ m = n.lanes.length - i ∧ T' 8 = .int .i64 i ∧ (HL.set b5 (.row true 80 (gcells 2408 (stepL n a ((n.lanes.take i).filter (toSt st)))) 2408)).sub H') n.lanes.length HL (Hp.sub.refl _) ⟨0, by omega, rfl, (by (try simp only [go_sem, ↓reduceIte, Nat.reduceEqDiff, reduceCtorEq, Nat.reduceAdd, Nat.reduceLeDiff, Nat.reduceSub, Nat.reduceMul, Int.reduceEq, Nat.reduceBEq]) <;> rfl), ?_⟩ ?_
  · refine sub_set_at (Hp.sub.refl _) ?_
    rw [g5]
    rfl
  rintro m T' H' hl' hoff ⟨i, hile, rfl, hTi, hsub⟩
  have t0 : T' 0 = .pointer (some ⟨b2, 0, none⟩) := by rw [hoff.get rfl]; simp only [go_sem, ↓reduceIte, Nat.reduceEqDiff, reduceCtorEq, Nat.reduceAdd, Nat.reduceLeDiff, Nat.reduceSub, Nat.reduceMul, Int.reduceEq, Nat.reduceBEq]
  have t1 : T' 1 = .pointer (some ⟨b3, 0, none⟩) := by rw [hoff.get rfl]; simp only [go_sem, ↓reduceIte, Nat.reduceEqDiff, reduceCtorEq, Nat.reduceAdd, Nat.reduceLeDiff, Nat.reduceSub, Nat.reduceMul, Int.reduceEq, Nat.reduceBEq]
  have t2 : T' 2 = .int .i64 st := by rw [hoff.get rfl]; simp only [go_sem, ↓reduceIte, Nat.reduceEqDiff, reduceCtorEq, Nat.reduceAdd, Nat.reduceLeDiff, Nat.reduceSub, Nat.reduceMul, Int.reduceEq, Nat.reduceBEq]
  have t7 : T' 7 = .pointer (some ⟨b5, 0, none⟩) := by rw [hoff.get rfl]; simp only [go_sem, ↓reduceIte, Nat.reduceEqDiff, reduceCtorEq, Nat.reduceAdd, Nat.reduceLeDiff, Nat.reduceSub, Nat.reduceMul, Int.reduceEq, Nat.reduceBEq]
  have r2 : H' b2 = _ := sub_get hsub g2 x6
  have r3 : H' b3 = _ := sub_get hsub g3 x5
  have r5 : H' b5 = _ := sub_at hsub
  by_cases hi : i < n.lanes.length
  · have hd : decide ((i : Int) < (n.lanes.length : Int)) = true := by simp [hi]
    have hsH : H.sub (HL.set b5 (.row true 80 (gcells 2408 (stepL n a ((n.lanes.take i).filter (toSt st)))) 2408)) := sub_set0 z5 hsubL
    obtain ⟨bb, off, hia, hrd⟩ := (hs.sub (hsH.trans hsub)).at (k := .i64) (i := (i : Int)) (by omega) (by simp; omega)
    have hrow : (n.lanes.map encLane).getD (i : Int).toNat [] = encLane n.lanes[i] := by simp [List.getD_eq_getElem?_getD, hi]
    rw [hrow, laneRow] at hrd
    obtain ⟨f, t, hlv⟩ := laneV_of hv (l := n.lanes[i]) (by simp)
    have hlt : n.lanes.take (i + 1) = n.lanes.take i ++ [n.lanes[i]] := List.take_succ_eq_append_getElem hi
    have hpos : n.lanes.length - (i + 1) < n.lanes.length - i := by omega
    generalize n.lanes[i] = l at *
    have hlv0 := hlv
    obtain ⟨e1, e2, f8, t8, l1, lm, m40, s0, s40⟩ := hlv
    have w1 : IntKind.i64.wrap l.to = l.to := wrap_i64 (by omega) (by omega)
    have w7 : IntKind.i64.wrap ((i : Int) + 1) = ((i + 1 : Nat) : Int) := by rw [wrap_i64 (by omega) (by omega)]; simp
    have k0 : decide ((st : Int) ≥ 0) = true := by simp
    simp only [go_sem, ↓reduceIte, Nat.reduceEqDiff, reduceCtorEq, Nat.reduceAdd, Nat.reduceLeDiff, Nat.reduceSub, Nat.reduceMul, Int.reduceEq, Nat.reduceBEq, t0, hTi, r2, hlen, hd, hia, hrd]
    refine aw_alloc fun b9 hb9 => ?_
    have y2 := some_ne r2 hb9
    have y3 := some_ne r3 hb9
    have y5 := some_ne r5 hb9
    have hs9 : H'.sub (H'.set b9 (.row true 95 [.int .i8 l.frm, .int .i8 l.to, .int .i16 l.least, .int .i16 l.most] 4)) := sub_set hb9 (Hp.sub.refl _)
    by_cases hto : l.to = st
    · have k1 : decide (l.to = (st : Int)) = true := by simp [hto]
      simp only [go_sem, ↓reduceIte, Nat.reduceEqDiff, reduceCtorEq, Nat.reduceAdd, Nat.reduceLeDiff, Nat.reduceSub, Nat.reduceMul, Int.reduceEq, Nat.reduceBEq, t2, k0, w1, k1]
      have q2 : (H'.set b9 (.row true 95 [.int .i8 l.frm, .int .i8 l.to, .int .i16 l.least, .int .i16 l.most] 4)) b2 = some (.row own2 ty2 (encNet n s) tot2) := by rw [set_ne y2]; exact r2
      have q3 : (H'.set b9 (.row true 95 [.int .i8 l.frm, .int .i8 l.to, .int .i16 l.least, .int .i16 l.most] 4)) b3 = some (.row own3 ty3 (gcells 2408 a) tot3) := by rw [set_ne y3]; exact r3
      have q5 : (H'.set b9 (.row true 95 [.int .i8 l.frm, .int .i8 l.to, .int .i16 l.least, .int .i16 l.most] 4)) b5 = some (.row true 80 (gcells 2408 (stepL n a ((n.lanes.take i).filter (toSt st)))) 2408) := by rw [set_ne y5]; exact r5
      have q9 : (H'.set b9 (.row true 95 [.int .i8 l.frm, .int .i8 l.to, .int .i16 l.least, .int .i16 l.most] 4)) b9 = some (.row true 95 [.int .i8 l.frm, .int .i8 l.to, .int .i16 l.least, .int .i16 l.most] 4) := set_same _ _ _
      have hl9 : Live (H'.set b9 (.row true 95 [.int .i8 l.frm, .int .i8 l.to, .int .i16 l.least, .int .i16 l.most] 4)) := Live.set hl' _ _ _ _ (by simp)
      generalize H'.set b9 (.row true 95 [.int .i8 l.frm, .int .i8 l.to, .int .i16 l.least, .int .i16 l.most] 4) = H9 at *
      refine aw_forN hl9 301 (by omega) 0 (by omega) (fun h T2 H2 => (H9.set b5 (.row true 80 (gcells 2408 (gor (stepL n a ((n.lanes.take i).filter (toSt st))) (rideB l n (fun u => a (f * 301 + u)) (t * 301) h))) 2408)).sub H2) H9 (Hp.sub.refl _) (by (try simp only [go_sem, ↓reduceIte, Nat.reduceEqDiff, reduceCtorEq, Nat.reduceAdd, Nat.reduceLeDiff, Nat.reduceSub, Nat.reduceMul, Int.reduceEq, Nat.reduceBEq]) <;> rfl) ?_ (fun h T' hh hoff' => ?_) rfl (by decide) (by decide) ?_ ?_
      · refine sub_set_at (Hp.sub.refl _) ?_
        rw [q5, show gcells 2408 (gor (stepL n a ((n.lanes.take i).filter (toSt st))) (rideB l n (fun u => a (f * 301 + u)) (t * 301) 0)) = gcells 2408 (stepL n a ((n.lanes.take i).filter (toSt st))) from gc_ext fun j _ => by simp [gor, rideB]]
      · rw [ev_const, abin_leq]
        exact congrArg (fun z => some (Value.bool z)) (decide_eq_decide.2 (by omega))
      · rintro h T2 H2 hh hl2 hoff2 hTh hsub2
        have u0 : T2 0 = .pointer (some ⟨b2, 0, none⟩) := by rw [hoff2.get rfl]; simp only [go_sem, ↓reduceIte, Nat.reduceEqDiff, reduceCtorEq, Nat.reduceAdd, Nat.reduceLeDiff, Nat.reduceSub, Nat.reduceMul, Int.reduceEq, Nat.reduceBEq, t0]
        have u1 : T2 1 = .pointer (some ⟨b3, 0, none⟩) := by rw [hoff2.get rfl]; simp only [go_sem, ↓reduceIte, Nat.reduceEqDiff, reduceCtorEq, Nat.reduceAdd, Nat.reduceLeDiff, Nat.reduceSub, Nat.reduceMul, Int.reduceEq, Nat.reduceBEq, t1]
        have u7 : T2 7 = .pointer (some ⟨b5, 0, none⟩) := by rw [hoff2.get rfl]; simp only [go_sem, ↓reduceIte, Nat.reduceEqDiff, reduceCtorEq, Nat.reduceAdd, Nat.reduceLeDiff, Nat.reduceSub, Nat.reduceMul, Int.reduceEq, Nat.reduceBEq, t7]
        have u9 : T2 9 = .pointer (some ⟨b9, 0, none⟩) := by rw [hoff2.get rfl]; simp only [go_sem, ↓reduceIte, Nat.reduceEqDiff, reduceCtorEq, Nat.reduceAdd, Nat.reduceLeDiff, Nat.reduceSub, Nat.reduceMul, Int.reduceEq, Nat.reduceBEq]
        have v9 : H2 b9 = _ := sub_get hsub2 q9 (Ne.symm y5)
        have v2 : H2 b2 = _ := sub_get hsub2 q2 x6
        have v3 : H2 b3 = _ := sub_get hsub2 q3 x5
        have v5 : H2 b5 = _ := sub_at hsub2
        have p1 := ptr_ix 8 301 b3 0 .i8 l.frm f e1 f8
        have p2 := ptr_ix 301 1 b3 (0 + f * 301) .i64 (h : Int) h rfl (by omega)
        have rd := gc_rd1 own3 ty3 2408 tot3 a (0 + f * 301 + h * 1) (by omega)
        simp only [Nat.zero_add, Nat.mul_one] at p1 p2 rd
        cases ea : a (f * 301 + h) with
        | false =>
          rw [ea] at rd
          simp only [go_sem, ↓reduceIte, Nat.reduceEqDiff, reduceCtorEq, Nat.reduceAdd, Nat.reduceLeDiff, Nat.reduceSub, Nat.reduceMul, Int.reduceEq, Nat.reduceBEq, u1, u9, hTh, v9, v3, p1, p2, rd]
          refine ⟨_, Hp.sub.refl _, ?_⟩
          show (H9.set b5 (.row true 80 (gcells 2408 (gor (stepL n a ((n.lanes.take i).filter (toSt st))) (rideB l n (fun u => a (f * 301 + u)) (t * 301) (h + 1)))) 2408)).sub _
          rw [show gcells 2408 (gor (stepL n a ((n.lanes.take i).filter (toSt st))) (rideB l n (fun u => a (f * 301 + u)) (t * 301) (h + 1))) = gcells 2408 (gor (stepL n a ((n.lanes.take i).filter (toSt st))) (rideB l n (fun u => a (f * 301 + u)) (t * 301) h)) from gc_ext fun j _ => by simp [gor, rideB_succ, ea]]
          exact hsub2
        | true =>
          rw [ea] at rd
          simp only [go_sem, ↓reduceIte, Nat.reduceEqDiff, reduceCtorEq, Nat.reduceAdd, Nat.reduceLeDiff, Nat.reduceSub, Nat.reduceMul, Int.reduceEq, Nat.reduceBEq, u0, u1, u7, u9, hTh, v9, v3, p1, p2, rd]
          refine aw_call (by (try simp only [go_sem, ↓reduceIte, Nat.reduceEqDiff, reduceCtorEq, Nat.reduceAdd, Nat.reduceLeDiff, Nat.reduceSub, Nat.reduceMul, Int.reduceEq, Nat.reduceBEq]) <;> rfl) (by (try simp only [go_sem, ↓reduceIte, Nat.reduceEqDiff, reduceCtorEq, Nat.reduceAdd, Nat.reduceLeDiff, Nat.reduceSub, Nat.reduceMul, Int.reduceEq, Nat.reduceBEq]) <;> rfl) (spec_l07Along n s l hlv0 h (by omega) v2 x6 _ v5 _ ?_)
          simp only [go_sem, ↓reduceIte, Nat.reduceEqDiff, reduceCtorEq, Nat.reduceAdd, Nat.reduceLeDiff, Nat.reduceSub, Nat.reduceMul, Int.reduceEq, Nat.reduceBEq]
          refine ⟨_, Hp.sub.refl _, ?_⟩
          rw [show gcells 2408 (gor (gor (stepL n a ((n.lanes.take i).filter (toSt st))) (rideB l n (fun u => a (f * 301 + u)) (t * 301) h)) (spn l n (t * 301 + h) (t * 301 + 300))) = gcells 2408 (gor (stepL n a ((n.lanes.take i).filter (toSt st))) (rideB l n (fun u => a (f * 301 + u)) (t * 301) (h + 1))) from gc_ext fun j _ => by simp [gor, rideB_succ, ea, Bool.or_assoc]]
          exact sub_st hsub2
      · rintro T2 H2 hl2 hoff2 hTh hsub2
        have u8 : T2 8 = .int .i64 i := by rw [hoff2.get rfl]; simp only [go_sem, ↓reduceIte, Nat.reduceEqDiff, reduceCtorEq, Nat.reduceAdd, Nat.reduceLeDiff, Nat.reduceSub, Nat.reduceMul, Int.reduceEq, Nat.reduceBEq, hTi]
        simp only [go_sem, ↓reduceIte, Nat.reduceEqDiff, reduceCtorEq, Nat.reduceAdd, Nat.reduceLeDiff, Nat.reduceSub, Nat.reduceMul, Int.reduceEq, Nat.reduceBEq, u8, w7]
        refine ⟨n.lanes.length - (i + 1), _, hpos, Hp.sub.refl _, i + 1, by omega, rfl, (by (try simp only [go_sem, ↓reduceIte, Nat.reduceEqDiff, reduceCtorEq, Nat.reduceAdd, Nat.reduceLeDiff, Nat.reduceSub, Nat.reduceMul, Int.reduceEq, Nat.reduceBEq]) <;> rfl), ?_⟩
        have e : gcells 2408 (gor (stepL n a ((n.lanes.take i).filter (toSt st))) (rideB l n (fun u => a (f * 301 + u)) (t * 301) 301)) = gcells 2408 (stepL n a ((n.lanes.take (i + 1)).filter (toSt st))) := by
          rw [hlt, List.filter_append, show [l].filter (toSt st) = [l] by simp [toSt, hto]]
          refine gc_ext fun j _ => ?_
          simp only [gor, stepL, List.any_append, List.any_cons, List.any_nil, Bool.or_false, rideB, e1, e2, Int.toNat_natCast]
        rw [← e]
        exact Hp.sub.trans (Hp.sub.trans (sub_st hsub) (sub_set2 hs9)) hsub2
    · have k1 : decide (l.to = (st : Int)) = false := by simp [hto]
      simp only [go_sem, ↓reduceIte, Nat.reduceEqDiff, reduceCtorEq, Nat.reduceAdd, Nat.reduceLeDiff, Nat.reduceSub, Nat.reduceMul, Int.reduceEq, Nat.reduceBEq, t2, k0, w1, k1, hTi, w7]
      refine ⟨n.lanes.length - (i + 1), _, hpos, Hp.sub.refl _, i + 1, by omega, rfl, (by (try simp only [go_sem, ↓reduceIte, Nat.reduceEqDiff, reduceCtorEq, Nat.reduceAdd, Nat.reduceLeDiff, Nat.reduceSub, Nat.reduceMul, Int.reduceEq, Nat.reduceBEq]) <;> rfl), ?_⟩
      rw [hlt, List.filter_append, show [l].filter (toSt st) = [] by simp [toSt, hto], List.append_nil]
      exact hsub.trans hs9
  · have hd : decide ((i : Int) < (n.lanes.length : Int)) = false := by simp; omega
    have hii : n.lanes.take i = n.lanes := List.take_of_length_le (by omega)
    rw [hii] at hsub
    simp only [go_sem, ↓reduceIte, Nat.reduceEqDiff, reduceCtorEq, Nat.reduceAdd, Nat.reduceLeDiff, Nat.reduceSub, Nat.reduceMul, Int.reduceEq, Nat.reduceBEq, t0, hTi, r2, hlen, hd]
    show lpQ _ _ _ (.exit 0) _ _
    simp only [lpQ]
    simp only [go_sem, ↓reduceIte, Nat.reduceEqDiff, reduceCtorEq, Nat.reduceAdd, Nat.reduceLeDiff, Nat.reduceSub, Nat.reduceMul, Int.reduceEq, Nat.reduceBEq, t7]
    refine retQ_r1 (by (try simp only [go_sem, ↓reduceIte, Nat.reduceEqDiff, reduceCtorEq, Nat.reduceAdd, Nat.reduceLeDiff, Nat.reduceSub, Nat.reduceMul, Int.reduceEq, Nat.reduceBEq]) <;> rfl) _ ?_ (hK b5 z5)
    exact Hp.sub.trans (sub_set2 hsubL) hsub
end Go.Proofs.Ytonmmfjagkgifaa
