/- Nets: the program's hours along a lane; hours in common. -/
import Derived.Test.YtonmmfjagkgifaaNet6
set_option linter.unusedVariables false
set_option linter.unusedSimpArgs false
namespace Go.Proofs.Ytonmmfjagkgifaa
open Go.RowKit
attribute [local go_sem] aw_mv aw_mkf aw_pick aw_bin aw_eqB aw_eqNil aw_eqAgg aw_un aw_conv aw_fa aw_ia aw_iaArr aw_ixArr aw_ixStr aw_fld aw_ext aw_bld aw_nilc aw_slc aw_slcArr aw_slcStr aw_len aw_cap aw_mnx aw_ld aw_st aw_guard_y aw_guard_n aw_nil aw_exit aw_ret aw_cond_t aw_cond_f aw_blk seqQ_norm seqQ_exit seqQ_ret blkQ_norm blkQ_exit_same blkQ_exit_ne blkQ_ret vPick_b vEqB_t vEqB_f vEqNil_sn vEqNil_ss vEqNil_pn vEqNil_ps vUn_neg vUn_not vUn_xor vConv_i vFa_p vIa_s vFld_a vExt_t vNilc_p vLen_s vLen_t vMnx_t vMnx_f abin_add abin_sub abin_mul abin_eql abin_neq abin_lss abin_leq abin_gtr abin_geq abin_and abin_or abin_xor abin_quo abin_rem abin_shl abin_shr abin_seq abin_sne abin_scat ev_tmp ev_const ev_func put_get puto_some puto_none args0_get List.getD_cons_succ List.getD_cons_zero Option.isSome_some Option.getD_some Option.isNone_none Option.isNone_some Option.map_some Option.map_none Value.bool.injEq Value.int.injEq add_mk aload_ptr rd_mk rdObj_row set_get astore_ptr apart_f apart_t List.length_cons List.length_nil List.drop_succ_cons List.drop_zero List.take_succ_cons List.take_zero List.map_cons List.map_nil Option.bind_some Option.bind_none ares_nil ares_tmp oneOf1 Nat.zero_add Nat.add_zero Bool.not_true Bool.not_false ne_eq not_false_eq_true not_true_eq_false decide_true decide_false Bool.true_and Bool.and_true Bool.false_eq_true and_self and_true true_and List.getElem?_cons_zero List.getElem?_cons_succ vc_agg vc_int vc_bool vc_slice aw_chk1 aw_chk2 st_agg st_int st_slice st_ptr one_int one_bool one_slice one_ptr one_str splice_eq aparts_nil aparts_cons afill_nil afill_cons rz0 rz1 rz2 List.all_cons List.all_nil Bool.and_self List.nil_append List.cons_append List.append_nil set_set

theorem spec_meet (f g : Nat → Bool) (H : Hp) (K : Value → Hp → Prop) (hK : K (.bool ((List.range 301).any fun h => f h && g h)) H) :
    ACalls Go.Proofs.Try.prog n_impl_meet #[.agg (gcells 301 f).toArray, .agg (gcells 301 g).toArray] H K := by
  refine acalls_go fn_impl_meet rfl fun hl => ?_
  simp only [c_impl_meet]
  refine aw_boxv (by (try simp only [go_sem, ↓reduceIte, Nat.reduceEqDiff, reduceCtorEq, Nat.reduceAdd, Nat.reduceLeDiff, Nat.reduceSub, Nat.reduceMul, Int.reduceEq, Nat.reduceBEq]) <;> rfl) fun b2 hb2 => ?_
  refine aw_boxv (by (try simp only [go_sem, ↓reduceIte, Nat.reduceEqDiff, reduceCtorEq, Nat.reduceAdd, Nat.reduceLeDiff, Nat.reduceSub, Nat.reduceMul, Int.reduceEq, Nat.reduceBEq]) <;> rfl) fun b3 hb3 => ?_
  rw [gc_vc, gc_vc, gc_len, gc_len] at *
  have x1 := ne_set hb3
  have x1' := x1.symm
  have r1 := gc_rd true 88 301 301 f 0 301 (by omega)
  have r2 := gc_apart 301 fun i => f (0 + i)
  have r3 : gcells 301 (fun i => f (0 + i)) = gcells 301 f := gc_ext fun i _ => by rw [Nat.zero_add]
  rw [r3] at r1 r2
  simp only [go_sem, ↓reduceIte, Nat.reduceEqDiff, reduceCtorEq, Nat.reduceAdd, Nat.reduceLeDiff, Nat.reduceSub, Nat.reduceMul, Int.reduceEq, Nat.reduceBEq, x1, x1', r1, r2]
  have q3 : ((H.set b2 (.row true 88 (gcells 301 f) 301)).set b3 (.row true 88 (gcells 301 g) 301)) b3 = some (.row true 88 (gcells 301 g) 301) := set_same _ _ _
  have hsub : H.sub ((H.set b2 (.row true 88 (gcells 301 f) 301)).set b3 (.row true 88 (gcells 301 g) 301)) := (by repeat (first | (with_reducible exact Hp.sub.refl _) | (with_reducible assumption) | (with_reducible refine sub_set0 ?_ ?_) | exact none_set (by with_reducible assumption) | exact none_set (none_set (by with_reducible assumption)) | exact none_set (none_set (none_set (by with_reducible assumption)))))
  have hlB : Live ((H.set b2 (.row true 88 (gcells 301 f) 301)).set b3 (.row true 88 (gcells 301 g) 301)) := Live.set (Live.set hl _ _ _ _ (Nat.le_of_eq (gc_len _ _))) _ _ _ _ (Nat.le_of_eq (gc_len _ _))
  generalize (H.set b2 (.row true 88 (gcells 301 f) 301)).set b3 (.row true 88 (gcells 301 g) 301) = HB at *
  refine aw_rangeO hlB 301 (by omega) (fun i T' H' => H' = HB ∧ ∀ j, j < i → (f j && g j) = false) HB (Hp.sub.refl _) (by (try simp only [go_sem, ↓reduceIte, Nat.reduceEqDiff, reduceCtorEq, Nat.reduceAdd, Nat.reduceLeDiff, Nat.reduceSub, Nat.reduceMul, Int.reduceEq, Nat.reduceBEq]) <;> rfl) ⟨rfl, fun j hj => absurd hj (by omega)⟩ (fun T' h => by simp [ev_const]) rfl (by decide) (by decide) ?_ ?_
  · rintro i T' H' hi hl' hoff hTi ⟨rfl, hno⟩
    have t3 : T' 3 = .pointer (some ⟨b3, 0, none⟩) := by rw [hoff.get rfl]; simp only [go_sem, ↓reduceIte, Nat.reduceEqDiff, reduceCtorEq, Nat.reduceAdd, Nat.reduceLeDiff, Nat.reduceSub, Nat.reduceMul, Int.reduceEq, Nat.reduceBEq]
    have t7 : T' 7 = .agg (gcells 301 f).toArray := by rw [hoff.get rfl]; simp only [go_sem, ↓reduceIte, Nat.reduceEqDiff, reduceCtorEq, Nat.reduceAdd, Nat.reduceLeDiff, Nat.reduceSub, Nat.reduceMul, Int.reduceEq, Nat.reduceBEq]
    have p1 := gc_ix1 301 f .i64 (i : Int) (by omega)
    rw [Int.toNat_natCast] at p1
    have p2 := ptr_ix 301 1 b3 0 .i64 (i : Int) i rfl hi
    have r4 : rdObj (H' b3) (0 + i * 1) 1 = some [.bool (g i)] := by rw [q3, gc_rd1 _ _ _ _ _ _ (by omega)]; simp
    simp only [Nat.zero_add, Nat.mul_one] at p2 r4
    cases e1 : f i with
    | false =>
      rw [e1] at p1
      simp only [go_sem, ↓reduceIte, Nat.reduceEqDiff, reduceCtorEq, Nat.reduceAdd, Nat.reduceLeDiff, Nat.reduceSub, Nat.reduceMul, Int.reduceEq, Nat.reduceBEq, t3, t7, hTi, p1]
      exact ⟨H', Hp.sub.refl _, rfl, fun j hj => by
        by_cases e : j = i
        · subst e; simp [e1]
        · exact hno j (by omega)⟩
    | true =>
      rw [e1] at p1
      cases e2 : g i with
      | false =>
        rw [e2] at r4
        simp only [go_sem, ↓reduceIte, Nat.reduceEqDiff, reduceCtorEq, Nat.reduceAdd, Nat.reduceLeDiff, Nat.reduceSub, Nat.reduceMul, Int.reduceEq, Nat.reduceBEq, t3, t7, hTi, p1, p2, r4]
        exact ⟨H', Hp.sub.refl _, rfl, fun j hj => by
          by_cases e : j = i
          · subst e; simp [e2]
          · exact hno j (by omega)⟩
      | true =>
        rw [e2] at r4
        simp only [go_sem, ↓reduceIte, Nat.reduceEqDiff, reduceCtorEq, Nat.reduceAdd, Nat.reduceLeDiff, Nat.reduceSub, Nat.reduceMul, Int.reduceEq, Nat.reduceBEq, t3, t7, hTi, p1, p2, r4]
        refine retQ_r1 (by (try simp only [go_sem, ↓reduceIte, Nat.reduceEqDiff, reduceCtorEq, Nat.reduceAdd, Nat.reduceLeDiff, Nat.reduceSub, Nat.reduceMul, Int.reduceEq, Nat.reduceBEq]) <;> rfl) H hsub ?_
        rw [show ((List.range 301).any fun h => f h && g h) = true from List.any_eq_true.2 ⟨i, by simpa using hi, by simp [e1, e2]⟩] at hK
        exact hK
  · rintro T' H' hl' hoff hTi ⟨rfl, hno⟩
    simp only [go_sem, ↓reduceIte, Nat.reduceEqDiff, reduceCtorEq, Nat.reduceAdd, Nat.reduceLeDiff, Nat.reduceSub, Nat.reduceMul, Int.reduceEq, Nat.reduceBEq]
    refine retQ_r1 (by (try simp only [go_sem, ↓reduceIte, Nat.reduceEqDiff, reduceCtorEq, Nat.reduceAdd, Nat.reduceLeDiff, Nat.reduceSub, Nat.reduceMul, Int.reduceEq, Nat.reduceBEq]) <;> rfl) H hsub ?_
    rw [show ((List.range 301).any fun h => f h && g h) = false from List.any_eq_false.2 fun h hh => by rw [hno h (by simpa using hh)]; simp] at hK
    exact hK
/-- The hours of a list, along a lane. -/
def rideB (l : LaneD) (n : NetD) (f : Nat → Bool) (off m : Nat) : Nat → Bool := fun i => (List.range m).any fun h => f h && spn l n (off + h) (off + 300) i
theorem rideB_succ (l : LaneD) (n : NetD) (f : Nat → Bool) (off m i : Nat) : rideB l n f off (m + 1) i = (rideB l n f off m i || (f m && spn l n (off + m) (off + 300) i)) := by
  unfold rideB
  rw [List.range_succ, List.any_append]
  simp
theorem spec_ride (n : NetD) (s : Value) (l : LaneD) {ff t : Nat} (hv : LaneV n l ff t) (f : Nat → Bool) {H : Hp} {bo off N tg tt : Nat} (g : Nat → Bool) (hroom : off + 301 ≤ N)
    (hbo : H bo = some (.row true tg (gcells N g) tt)) (K : Value → Hp → Prop) (hK : K (oneOf []) (H.set bo (.row true tg (gcells N (gor g (rideB l n f off 301))) tt))) :
    ACalls Go.Proofs.Try.prog n_impl_Net_ride #[.agg (encNet n s).toArray, .agg (encLane l).toArray, .agg (gcells 301 f).toArray, .pointer (some ⟨bo, off, none⟩)] H K := by
  refine acalls_go fn_impl_Net_ride rfl fun hl => ?_
  simp only [c_impl_Net_ride]
  rw [netRow, laneRow]
  obtain ⟨e1, e2, f8, t8, l1, lm, m40, s0, s40⟩ := hv
  refine aw_boxv (by (try simp only [go_sem, ↓reduceIte, Nat.reduceEqDiff, reduceCtorEq, Nat.reduceAdd, Nat.reduceLeDiff, Nat.reduceSub, Nat.reduceMul, Int.reduceEq, Nat.reduceBEq]) <;> rfl) fun b4 hb4 => ?_
  refine aw_boxv (by (try simp only [go_sem, ↓reduceIte, Nat.reduceEqDiff, reduceCtorEq, Nat.reduceAdd, Nat.reduceLeDiff, Nat.reduceSub, Nat.reduceMul, Int.reduceEq, Nat.reduceBEq]) <;> rfl) fun b5 hb5 => ?_
  refine aw_boxv (by (try simp only [go_sem, ↓reduceIte, Nat.reduceEqDiff, reduceCtorEq, Nat.reduceAdd, Nat.reduceLeDiff, Nat.reduceSub, Nat.reduceMul, Int.reduceEq, Nat.reduceBEq]) <;> rfl) fun b6 hb6 => ?_
  rw [gc_vc, gc_len] at *
  have x1 := ne_set hb5
  have x2 := ne_set hb6
  have x3 := ne_set (none_set hb6)
  have y1 := some_ne hbo hb4
  have y2 := some_ne hbo (none_set hb5)
  have y3 := some_ne hbo (none_set (none_set hb6))
  have w1 : IntKind.i64.wrap l.least = l.least := wrap_i64 (by omega) (by omega)
  have w2 : IntKind.i64.wrap l.most = l.most := wrap_i64 (by omega) (by omega)
  have w3 : IntKind.i64.wrap n.stay = n.stay := wrap_i64 (by omega) (by omega)
  have r1 := gc_rd true 88 301 301 f 0 301 (by omega)
  have r2 := gc_apart 301 fun i => f (0 + i)
  have r3 : gcells 301 (fun i => f (0 + i)) = gcells 301 f := gc_ext fun i _ => by rw [Nat.zero_add]
  rw [r3] at r1 r2
  simp only [go_sem, ↓reduceIte, Nat.reduceEqDiff, reduceCtorEq, Nat.reduceAdd, Nat.reduceLeDiff, Nat.reduceSub, Nat.reduceMul, Int.reduceEq, Nat.reduceBEq, r1, r2]
  have hsubL : H.sub (((H.set b4 (.row true 35 [.int .i8 n.st, .int .i16 n.stay, s] 3)).set b5 (.row true 95 [.int .i8 l.frm, .int .i8 l.to, .int .i16 l.least, .int .i16 l.most] 4)).set b6 (.row true 88 (gcells 301 f) 301)) := sub_set hb6 (sub_set hb5 (sub_set hb4 (Hp.sub.refl _)))
  have g4 : (((H.set b4 (.row true 35 [.int .i8 n.st, .int .i16 n.stay, s] 3)).set b5 (.row true 95 [.int .i8 l.frm, .int .i8 l.to, .int .i16 l.least, .int .i16 l.most] 4)).set b6 (.row true 88 (gcells 301 f) 301)) b4 = some (.row true 35 [.int .i8 n.st, .int .i16 n.stay, s] 3) := by rw [set_ne x3, set_ne x1, set_same]
  have g5 : (((H.set b4 (.row true 35 [.int .i8 n.st, .int .i16 n.stay, s] 3)).set b5 (.row true 95 [.int .i8 l.frm, .int .i8 l.to, .int .i16 l.least, .int .i16 l.most] 4)).set b6 (.row true 88 (gcells 301 f) 301)) b5 = some (.row true 95 [.int .i8 l.frm, .int .i8 l.to, .int .i16 l.least, .int .i16 l.most] 4) := by rw [set_ne x2, set_same]
  have go : (((H.set b4 (.row true 35 [.int .i8 n.st, .int .i16 n.stay, s] 3)).set b5 (.row true 95 [.int .i8 l.frm, .int .i8 l.to, .int .i16 l.least, .int .i16 l.most] 4)).set b6 (.row true 88 (gcells 301 f) 301)) bo = some (.row true tg (gcells N g) tt) := hsubL _ _ hbo
  have hlL : Live (((H.set b4 (.row true 35 [.int .i8 n.st, .int .i16 n.stay, s] 3)).set b5 (.row true 95 [.int .i8 l.frm, .int .i8 l.to, .int .i16 l.least, .int .i16 l.most] 4)).set b6 (.row true 88 (gcells 301 f) 301)) := Live.set (Live.set (Live.set hl _ _ _ _ (by simp)) _ _ _ _ (by simp)) _ _ _ _ (Nat.le_of_eq (gc_len _ _))
  generalize (((H.set b4 (.row true 35 [.int .i8 n.st, .int .i16 n.stay, s] 3)).set b5 (.row true 95 [.int .i8 l.frm, .int .i8 l.to, .int .i16 l.least, .int .i16 l.most] 4)).set b6 (.row true 88 (gcells 301 f) 301)) = HL at *
  refine aw_rangeO hlL 301 (by omega) (fun i T' H' => (HL.set bo (.row true tg (gcells N (gor g (rideB l n f off i))) tt)).sub H') HL (Hp.sub.refl _) (by (try simp only [go_sem, ↓reduceIte, Nat.reduceEqDiff, reduceCtorEq, Nat.reduceAdd, Nat.reduceLeDiff, Nat.reduceSub, Nat.reduceMul, Int.reduceEq, Nat.reduceBEq]) <;> rfl) ?_ (fun T' h => by simp [ev_const]) rfl (by decide) (by decide) ?_ ?_
  · refine sub_set_at (Hp.sub.refl _) ?_
    rw [go, show gcells N (gor g (rideB l n f off 0)) = gcells N g from gc_ext fun i _ => by simp [gor, rideB]]
  · rintro h T' H' hi hl' hoff hTi hsub
    have t3 : T' 3 = .pointer (some ⟨bo, off, none⟩) := by rw [hoff.get rfl]; simp only [go_sem, ↓reduceIte, Nat.reduceEqDiff, reduceCtorEq, Nat.reduceAdd, Nat.reduceLeDiff, Nat.reduceSub, Nat.reduceMul, Int.reduceEq, Nat.reduceBEq]
    have t4 : T' 4 = .pointer (some ⟨b4, 0, none⟩) := by rw [hoff.get rfl]; simp only [go_sem, ↓reduceIte, Nat.reduceEqDiff, reduceCtorEq, Nat.reduceAdd, Nat.reduceLeDiff, Nat.reduceSub, Nat.reduceMul, Int.reduceEq, Nat.reduceBEq]
    have t5 : T' 5 = .pointer (some ⟨b5, 0, none⟩) := by rw [hoff.get rfl]; simp only [go_sem, ↓reduceIte, Nat.reduceEqDiff, reduceCtorEq, Nat.reduceAdd, Nat.reduceLeDiff, Nat.reduceSub, Nat.reduceMul, Int.reduceEq, Nat.reduceBEq]
    have t11 : T' 11 = .agg (gcells 301 f).toArray := by rw [hoff.get rfl]; simp only [go_sem, ↓reduceIte, Nat.reduceEqDiff, reduceCtorEq, Nat.reduceAdd, Nat.reduceLeDiff, Nat.reduceSub, Nat.reduceMul, Int.reduceEq, Nat.reduceBEq]
    have p1 := gc_ix1 301 f .i64 (h : Int) (by omega)
    rw [Int.toNat_natCast] at p1
    cases ef : f h with
    | false =>
      rw [ef] at p1
      simp only [go_sem, ↓reduceIte, Nat.reduceEqDiff, reduceCtorEq, Nat.reduceAdd, Nat.reduceLeDiff, Nat.reduceSub, Nat.reduceMul, Int.reduceEq, Nat.reduceBEq, t11, hTi, p1]
      show ∃ H2, _
      refine ⟨H', Hp.sub.refl _, ?_⟩
      show (HL.set bo (.row true tg (gcells N (gor g (rideB l n f off (h + 1)))) tt)).sub H'
      rw [show gor g (rideB l n f off (h + 1)) = gor g (rideB l n f off h) from funext fun i => by simp [gor, rideB_succ, ef]]
      exact hsub
    | true =>
      rw [ef] at p1
      have r5 : H' b5 = _ := sub_get hsub g5 (Ne.symm y2)
      have r4 : H' b4 = _ := sub_get hsub g4 (Ne.symm y1)
      have w4 : IntKind.i64.wrap ((h : Int) + l.least) = ((h + l.least.toNat : Nat) : Int) := by rw [wrap_i64 (by omega) (by omega)]; omega
      simp only [go_sem, ↓reduceIte, Nat.reduceEqDiff, reduceCtorEq, Nat.reduceAdd, Nat.reduceLeDiff, Nat.reduceSub, Nat.reduceMul, Int.reduceEq, Nat.reduceBEq, t3, t4, t5, t11, hTi, p1, r5, r4, w1, w4]
      have fin : ∀ d : Nat, ((d : Int) = l.least ∨ ((d : Int) - 1 ≤ l.most + n.stay ∧ h + d ≤ 301)) → l.least ≤ d → (¬ (d : Int) ≤ l.most + n.stay ∨ 300 < h + d) →
          gcells N (gor (gor g (rideB l n f off h)) (alongTo l (off + h) d)) = gcells N (gor g (rideB l n f off (h + 1))) := by
        intro d hd1 hd2 hd3
        refine gc_ext fun i _ => ?_
        simp only [gor, rideB_succ, ef, Bool.true_and, Bool.or_assoc]
        refine congrArg (fun z => g i || (rideB l n f off h i || z)) ?_
        simp only [spn, alongTo]
        exact decide_eq_decide.2 (by omega)
      refine aw_loopM hl' (fun m T2 H2 => ∃ d : Nat, ((d : Int) = l.least ∨ ((d : Int) - 1 ≤ l.most + n.stay ∧ h + d ≤ 301)) ∧ l.least ≤ d ∧ m = 400 - d ∧ T2 10 = .int .i64 ((h + d : Nat) : Int) ∧ (HL.set bo (.row true tg (gcells N (gor (gor g (rideB l n f off h)) (alongTo l (off + h) d))) tt)).sub H2) (400 - l.least.toNat) H' (Hp.sub.refl _)
        ⟨l.least.toNat, .inl (by omega), by omega, rfl, (by (try simp only [go_sem, ↓reduceIte, Nat.reduceEqDiff, reduceCtorEq, Nat.reduceAdd, Nat.reduceLeDiff, Nat.reduceSub, Nat.reduceMul, Int.reduceEq, Nat.reduceBEq]) <;> rfl), ?_⟩ ?_
      · rw [show gcells N (gor (gor g (rideB l n f off h)) (alongTo l (off + h) l.least.toNat)) = gcells N (gor g (rideB l n f off h)) from gc_ext fun i _ => ?_]
        · exact hsub
        · simp only [gor, alongTo]
          rw [show decide (((off + h : Nat) : Int) + l.least ≤ i ∧ i < off + h + l.least.toNat) = false from decide_eq_false_iff_not.2 (by omega)]
          simp
      · rintro m T2 H2 hl2 hoff2 ⟨d, hd1, hd2, rfl, hT10, hsub2⟩
        have u3 : T2 3 = .pointer (some ⟨bo, off, none⟩) := by rw [hoff2.get rfl]; simp only [go_sem, ↓reduceIte, Nat.reduceEqDiff, reduceCtorEq, Nat.reduceAdd, Nat.reduceLeDiff, Nat.reduceSub, Nat.reduceMul, Int.reduceEq, Nat.reduceBEq, t3]
        have u4 : T2 4 = .pointer (some ⟨b4, 0, none⟩) := by rw [hoff2.get rfl]; simp only [go_sem, ↓reduceIte, Nat.reduceEqDiff, reduceCtorEq, Nat.reduceAdd, Nat.reduceLeDiff, Nat.reduceSub, Nat.reduceMul, Int.reduceEq, Nat.reduceBEq, t4]
        have u5 : T2 5 = .pointer (some ⟨b5, 0, none⟩) := by rw [hoff2.get rfl]; simp only [go_sem, ↓reduceIte, Nat.reduceEqDiff, reduceCtorEq, Nat.reduceAdd, Nat.reduceLeDiff, Nat.reduceSub, Nat.reduceMul, Int.reduceEq, Nat.reduceBEq, t5]
        have u8 : T2 8 = .int .i64 h := by rw [hoff2.get rfl]; simp only [go_sem, ↓reduceIte, Nat.reduceEqDiff, reduceCtorEq, Nat.reduceAdd, Nat.reduceLeDiff, Nat.reduceSub, Nat.reduceMul, Int.reduceEq, Nat.reduceBEq]
        have v5 : H2 b5 = _ := sub_get hsub2 g5 (Ne.symm y2)
        have v4 : H2 b4 = _ := sub_get hsub2 g4 (Ne.symm y1)
        have vo : H2 bo = _ := sub_at hsub2
        have w5 : IntKind.i64.wrap ((h : Int) + n.stay) = (h : Int) + n.stay := wrap_i64 (by omega) (by omega)
        have w6 : IntKind.i64.wrap ((h : Int) + n.stay + l.most) = (h : Int) + n.stay + l.most := wrap_i64 (by omega) (by omega)
        by_cases c : (d : Int) ≤ l.most + n.stay ∧ h + d ≤ 300
        · have k1 : decide (((h + d : Nat) : Int) ≤ (if (300 : Int) < (h : Int) + n.stay + l.most then 300 else (h : Int) + n.stay + l.most)) = true := by
            rw [decide_eq_true_eq]; split <;> omega
          have p2 := ptr_ix 301 1 bo off .i64 ((h + d : Nat) : Int) (h + d) rfl (by omega)
          have st := gc_st1 tg N tt (gor (gor g (rideB l n f off h)) (alongTo l (off + h) d)) (off + (h + d) * 1) true (by omega)
          rw [← vo] at st
          have w7 : IntKind.i64.wrap (((h + d : Nat) : Int) + 1) = ((h + (d + 1) : Nat) : Int) := by rw [wrap_i64 (by omega) (by omega)]; omega
          simp only [go_sem, ↓reduceIte, Nat.reduceEqDiff, reduceCtorEq, Nat.reduceAdd, Nat.reduceLeDiff, Nat.reduceSub, Nat.reduceMul, Int.reduceEq, Nat.reduceBEq, u3, u4, u5, u8, hT10, v5, v4, w2, w3, w5, w6, k1, p2, st, w7]
          refine ⟨400 - (d + 1), _, by omega, Hp.sub.refl _, d + 1, .inr (by omega), by omega, rfl, (by (try simp only [go_sem, ↓reduceIte, Nat.reduceEqDiff, reduceCtorEq, Nat.reduceAdd, Nat.reduceLeDiff, Nat.reduceSub, Nat.reduceMul, Int.reduceEq, Nat.reduceBEq]) <;> rfl), ?_⟩
          have e : gcells N (gup (gor (gor g (rideB l n f off h)) (alongTo l (off + h) d)) (off + (h + d) * 1) true) = gcells N (gor (gor g (rideB l n f off h)) (alongTo l (off + h) (d + 1))) := by
            refine gc_ext fun i _ => ?_
            simp only [gup, gor, alongTo]
            split
            · rename_i hi
              rw [show decide (((off + h : Nat) : Int) + l.least ≤ i ∧ i < off + h + (d + 1)) = true from decide_eq_true (by omega)]
              simp
            · exact congrArg (fun z => (g i || rideB l n f off h i) || z) (decide_eq_decide.2 (by omega))
          rw [e]
          exact sub_st hsub2
        · have k1 : decide (((h + d : Nat) : Int) ≤ (if (300 : Int) < (h : Int) + n.stay + l.most then 300 else (h : Int) + n.stay + l.most)) = false := by
            rw [decide_eq_false_iff_not]; split <;> omega
          simp only [go_sem, ↓reduceIte, Nat.reduceEqDiff, reduceCtorEq, Nat.reduceAdd, Nat.reduceLeDiff, Nat.reduceSub, Nat.reduceMul, Int.reduceEq, Nat.reduceBEq, u3, u4, u5, u8, hT10, v5, v4, w2, w3, w5, w6, k1]
          show lpQ _ _ _ (.exit 2) _ _
          simp only [lpQ]
          simp only [go_sem, ↓reduceIte, Nat.reduceEqDiff, reduceCtorEq, Nat.reduceAdd, Nat.reduceLeDiff, Nat.reduceSub, Nat.reduceMul, Int.reduceEq, Nat.reduceBEq]
          rw [fin d hd1 hd2 (by omega)] at hsub2
          exact ⟨H2, Hp.sub.refl _, hsub2⟩
  · rintro T' H' hl' hoff hTi hsub
    simp only [go_sem, ↓reduceIte, Nat.reduceEqDiff, reduceCtorEq, Nat.reduceAdd, Nat.reduceLeDiff, Nat.reduceSub, Nat.reduceMul, Int.reduceEq, Nat.reduceBEq]
    refine retQ_n0 _ (Hp.sub.trans ?_ hsub) hK
    exact sub_set2 hsubL
end Go.Proofs.Ytonmmfjagkgifaa
