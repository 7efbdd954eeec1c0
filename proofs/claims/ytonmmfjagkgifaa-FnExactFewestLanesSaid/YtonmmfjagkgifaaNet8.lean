/- Nets: arrivals by one lane more. -/
import Derived.Test.YtonmmfjagkgifaaNet7
set_option linter.unusedVariables false
set_option linter.unusedSimpArgs false
namespace Go.Proofs.Ytonmmfjagkgifaa
open Go.RowKit
attribute [local go_sem] aw_mv aw_mkf aw_pick aw_bin aw_eqB aw_eqNil aw_eqAgg aw_un aw_conv aw_fa aw_ia aw_iaArr aw_ixArr aw_ixStr aw_fld aw_ext aw_bld aw_nilc aw_slc aw_slcArr aw_slcStr aw_len aw_cap aw_mnx aw_ld aw_st aw_guard_y aw_guard_n aw_nil aw_exit aw_ret aw_cond_t aw_cond_f aw_blk seqQ_norm seqQ_exit seqQ_ret blkQ_norm blkQ_exit_same blkQ_exit_ne blkQ_ret vPick_b vEqB_t vEqB_f vEqNil_sn vEqNil_ss vEqNil_pn vEqNil_ps vUn_neg vUn_not vUn_xor vConv_i vFa_p vIa_s vFld_a vExt_t vNilc_p vLen_s vLen_t vMnx_t vMnx_f abin_add abin_sub abin_mul abin_eql abin_neq abin_lss abin_leq abin_gtr abin_geq abin_and abin_or abin_xor abin_quo abin_rem abin_shl abin_shr abin_seq abin_sne abin_scat ev_tmp ev_const ev_func put_get puto_some puto_none args0_get List.getD_cons_succ List.getD_cons_zero Option.isSome_some Option.getD_some Option.isNone_none Option.isNone_some Option.map_some Option.map_none Value.bool.injEq Value.int.injEq add_mk aload_ptr rd_mk rdObj_row set_get astore_ptr apart_f apart_t List.length_cons List.length_nil List.drop_succ_cons List.drop_zero List.take_succ_cons List.take_zero List.map_cons List.map_nil Option.bind_some Option.bind_none ares_nil ares_tmp oneOf1 Nat.zero_add Nat.add_zero Bool.not_true Bool.not_false ne_eq not_false_eq_true not_true_eq_false decide_true decide_false Bool.true_and Bool.and_true Bool.false_eq_true and_self and_true true_and List.getElem?_cons_zero List.getElem?_cons_succ vc_agg vc_int vc_bool vc_slice aw_chk1 aw_chk2 st_agg st_int st_slice st_ptr one_int one_bool one_slice one_ptr one_str splice_eq aparts_nil aparts_cons afill_nil afill_cons rz0 rz1 rz2 List.all_cons List.all_nil Bool.and_self List.nil_append List.cons_append List.append_nil set_set

theorem gc_rdall (own : Bool) (ty : TypeId) (n tot : Nat) (g : Nat → Bool) : rdObj (some (.row own ty (gcells n g) tot)) 0 n = some (gcells n g) := by
  rw [gc_rd _ _ _ _ _ _ _ (by omega)]
  exact congrArg some (gc_ext fun i _ => by rw [Nat.zero_add])
def only (x : Nat) : Nat → Bool := fun i => decide (i = x)
theorem spec_begin (a : Int × Int) (st h : Nat) (e1 : a.1 = st) (e2 : a.2 = h) (h8 : st < 8) (h3 : h ≤ 300) (H : Hp) (K : Value → Hp → Prop) (hK : K (.agg (gcells 2408 (only (st * 301 + h))).toArray) H) :
    ACalls Go.Proofs.Try.prog n_impl_begin #[.agg (encScan a).toArray] H K := by
  refine acalls_go fn_impl_begin rfl fun hl => ?_
  simp only [c_impl_begin, encScan, gc_zero]
  refine aw_boxv (by (try simp only [go_sem, ↓reduceIte, Nat.reduceEqDiff, reduceCtorEq, Nat.reduceAdd, Nat.reduceLeDiff, Nat.reduceSub, Nat.reduceMul, Int.reduceEq, Nat.reduceBEq]) <;> rfl) fun b1 hb1 => ?_
  refine aw_alloc fun b2 hb2 => ?_
  simp only [go_sem, ↓reduceIte, Nat.reduceEqDiff, reduceCtorEq, Nat.reduceAdd, Nat.reduceLeDiff, Nat.reduceSub, Nat.reduceMul, Int.reduceEq, Nat.reduceBEq, gc_rdall, gc_apart, gc_stall, gc_len, vBld_nil]
  refine aw_alloc fun b3 hb3 => ?_
  have x1 := ne_set hb2
  have x1' := x1.symm
  have x2 := ne_set hb3
  have x2' := x2.symm
  have x3 := ne_set (none_set hb3)
  have x3' := x3.symm
  have p1 := ptr_ix 8 301 b3 0 .i8 a.1 st e1 h8
  have p2 := ptr_ix 301 1 b3 (0 + st * 301) .i16 a.2 h e2 (by omega)
  have s1 := gc_st1 90 2408 2408 (fun _ => false) (0 + st * 301 + h * 1) true (by omega)
  have e : gcells 2408 (gup (fun _ => false) (0 + st * 301 + h * 1) true) = gcells 2408 (only (st * 301 + h)) := gc_ext fun i _ => by
    simp only [gup, only, Nat.zero_add, Nat.mul_one]
    split <;> simp [*]
  rw [e] at s1
  simp only [Nat.zero_add, Nat.mul_one] at p1 p2 s1
  simp only [go_sem, ↓reduceIte, Nat.reduceEqDiff, reduceCtorEq, Nat.reduceAdd, Nat.reduceLeDiff, Nat.reduceSub, Nat.reduceMul, Int.reduceEq, Nat.reduceBEq, gc_rdall, gc_apart, gc_stall, gc_len, vBld_nil, x1, x2, x3, x1', x2', x3', p1, p2, s1]
  exact retQ_c1 (b := b2) (off := 0) (by (try simp only [go_sem, ↓reduceIte, Nat.reduceEqDiff, reduceCtorEq, Nat.reduceAdd, Nat.reduceLeDiff, Nat.reduceSub, Nat.reduceMul, Int.reduceEq, Nat.reduceBEq]) <;> rfl) (by rw [set_same, gc_rdall, Option.bind_some, gc_apart]) H (by repeat (first | (with_reducible exact Hp.sub.refl _) | (with_reducible assumption) | (with_reducible refine sub_set0 ?_ ?_) | exact none_set (by with_reducible assumption) | exact none_set (none_set (by with_reducible assumption)) | exact none_set (none_set (none_set (by with_reducible assumption))))) hK
/-- The arrivals by one lane more, over some lanes. -/
def stepL (n : NetD) (a : Nat → Bool) (ls : List LaneD) : Nat → Bool := fun i => ls.any fun l => (List.range 301).any fun h => a (l.frm.toNat * 301 + h) && spn l n (l.to.toNat * 301 + h) (l.to.toNat * 301 + 300) i
theorem spec_next (n : NetD) (s : Value) (hv : validNet n = true) (a : Nat → Bool) {H : Hp} (hs : Sl H 4 s (n.lanes.map encLane)) (K : Value → Hp → Prop) (hK : K (.agg (gcells 2408 (stepL n a n.lanes)).toArray) H) :
    ACalls Go.Proofs.Try.prog n_impl_Net_next #[.agg (encNet n s).toArray, .agg (gcells 2408 a).toArray] H K := by
  refine acalls_go fn_impl_Net_next rfl fun hl => ?_
  simp only [c_impl_Net_next, gc_zero]
  rw [netRow]
  refine aw_boxv (by (try simp only [go_sem, ↓reduceIte, Nat.reduceEqDiff, reduceCtorEq, Nat.reduceAdd, Nat.reduceLeDiff, Nat.reduceSub, Nat.reduceMul, Int.reduceEq, Nat.reduceBEq]) <;> rfl) fun b2 hb2 => ?_
  refine aw_boxv (by (try simp only [go_sem, ↓reduceIte, Nat.reduceEqDiff, reduceCtorEq, Nat.reduceAdd, Nat.reduceLeDiff, Nat.reduceSub, Nat.reduceMul, Int.reduceEq, Nat.reduceBEq]) <;> rfl) fun b3 hb3 => ?_
  rw [gc_vc, gc_len] at *
  refine aw_alloc fun b4 hb4 => ?_
  simp only [go_sem, ↓reduceIte, Nat.reduceEqDiff, reduceCtorEq, Nat.reduceAdd, Nat.reduceLeDiff, Nat.reduceSub, Nat.reduceMul, Int.reduceEq, Nat.reduceBEq, gc_rdall, gc_apart, gc_stall, gc_len, vBld_nil]
  refine aw_alloc fun b5 hb5 => ?_
  have x1 := ne_set hb3
  have x2 := ne_set hb4
  have x3 := ne_set (none_set hb4)
  have x4 := ne_set hb5
  have x5 := ne_set (none_set hb5)
  have x6 := ne_set (none_set (none_set hb5))
  have z5 : H b5 = none := none_set (none_set (none_set hb5))
  have z4 : H b4 = none := none_set (none_set hb4)
  have hlen := hs.len
  have hle := hs.le
  rw [List.length_map] at hlen hle
  simp only [go_sem, ↓reduceIte, Nat.reduceEqDiff, reduceCtorEq, Nat.reduceAdd, Nat.reduceLeDiff, Nat.reduceSub, Nat.reduceMul, Int.reduceEq, Nat.reduceBEq, gc_rdall, gc_apart, gc_stall, gc_len, vBld_nil, x1, x2, x3, x4, x5, x6, x1.symm, x2.symm, x3.symm, x4.symm, x5.symm, x6.symm, hlen]
  have hsubL : H.sub ((((H.set b2 (.row true 35 [.int .i8 n.st, .int .i16 n.stay, s] 3)).set b3 (.row true 90 (gcells 2408 a) 2408)).set b4 (.row true 90 (gcells 2408 fun x => false) 2408)).set b5 (.row true 90 (gcells 2408 fun x => false) 2408)) := (by repeat (first | (with_reducible exact Hp.sub.refl _) | (with_reducible assumption) | (with_reducible refine sub_set0 ?_ ?_) | exact none_set (by with_reducible assumption) | exact none_set (none_set (by with_reducible assumption)) | exact none_set (none_set (none_set (by with_reducible assumption)))))
  have g2 : ((((H.set b2 (.row true 35 [.int .i8 n.st, .int .i16 n.stay, s] 3)).set b3 (.row true 90 (gcells 2408 a) 2408)).set b4 (.row true 90 (gcells 2408 fun x => false) 2408)).set b5 (.row true 90 (gcells 2408 fun x => false) 2408)) b2 = some (.row true 35 [.int .i8 n.st, .int .i16 n.stay, s] 3) := by rw [set_ne x6, set_ne x3, set_ne x1, set_same]
  have g3 : ((((H.set b2 (.row true 35 [.int .i8 n.st, .int .i16 n.stay, s] 3)).set b3 (.row true 90 (gcells 2408 a) 2408)).set b4 (.row true 90 (gcells 2408 fun x => false) 2408)).set b5 (.row true 90 (gcells 2408 fun x => false) 2408)) b3 = some (.row true 90 (gcells 2408 a) 2408) := by rw [set_ne x5, set_ne x2, set_same]
  have g4 : ((((H.set b2 (.row true 35 [.int .i8 n.st, .int .i16 n.stay, s] 3)).set b3 (.row true 90 (gcells 2408 a) 2408)).set b4 (.row true 90 (gcells 2408 fun x => false) 2408)).set b5 (.row true 90 (gcells 2408 fun x => false) 2408)) b4 = some (.row true 90 (gcells 2408 fun x => false) 2408) := by rw [set_ne x4, set_same]
  have g5 : ((((H.set b2 (.row true 35 [.int .i8 n.st, .int .i16 n.stay, s] 3)).set b3 (.row true 90 (gcells 2408 a) 2408)).set b4 (.row true 90 (gcells 2408 fun x => false) 2408)).set b5 (.row true 90 (gcells 2408 fun x => false) 2408)) b5 = some (.row true 90 (gcells 2408 fun x => false) 2408) := by rw [set_same]
  have hlL : Live ((((H.set b2 (.row true 35 [.int .i8 n.st, .int .i16 n.stay, s] 3)).set b3 (.row true 90 (gcells 2408 a) 2408)).set b4 (.row true 90 (gcells 2408 fun x => false) 2408)).set b5 (.row true 90 (gcells 2408 fun x => false) 2408)) :=
    Live.set (Live.set (Live.set (Live.set hl _ _ _ _ (by simp)) _ _ _ _ (Nat.le_of_eq (gc_len _ _))) _ _ _ _ (Nat.le_of_eq (gc_len _ _))) _ _ _ _ (Nat.le_of_eq (gc_len _ _))
  generalize ((((H.set b2 (.row true 35 [.int .i8 n.st, .int .i16 n.stay, s] 3)).set b3 (.row true 90 (gcells 2408 a) 2408)).set b4 (.row true 90 (gcells 2408 fun x => false) 2408)).set b5 (.row true 90 (gcells 2408 fun x => false) 2408)) = HL at *
  refine aw_range hlL n.lanes.length (by omega) (fun i T' H' => (HL.set b5 (.row true 90 (gcells 2408 (stepL n a (n.lanes.take i))) 2408)).sub H') HL (Hp.sub.refl _) (by (try simp only [go_sem, ↓reduceIte, Nat.reduceEqDiff, reduceCtorEq, Nat.reduceAdd, Nat.reduceLeDiff, Nat.reduceSub, Nat.reduceMul, Int.reduceEq, Nat.reduceBEq]) <;> rfl) (by (try simp only [go_sem, ↓reduceIte, Nat.reduceEqDiff, reduceCtorEq, Nat.reduceAdd, Nat.reduceLeDiff, Nat.reduceSub, Nat.reduceMul, Int.reduceEq, Nat.reduceBEq]) <;> rfl) ?_ rfl rfl (by decide) (by decide) ?_ ?_
  · refine sub_set_at (Hp.sub.refl _) ?_
    rw [g5]
    rfl
  · rintro i T' H' hi hl' hoff hTi hsub
    have t2 : T' 2 = .pointer (some ⟨b2, 0, none⟩) := by rw [hoff.get rfl]; simp only [go_sem, ↓reduceIte, Nat.reduceEqDiff, reduceCtorEq, Nat.reduceAdd, Nat.reduceLeDiff, Nat.reduceSub, Nat.reduceMul, Int.reduceEq, Nat.reduceBEq]
    have t3 : T' 3 = .pointer (some ⟨b3, 0, none⟩) := by rw [hoff.get rfl]; simp only [go_sem, ↓reduceIte, Nat.reduceEqDiff, reduceCtorEq, Nat.reduceAdd, Nat.reduceLeDiff, Nat.reduceSub, Nat.reduceMul, Int.reduceEq, Nat.reduceBEq]
    have t5 : T' 5 = .pointer (some ⟨b5, 0, none⟩) := by rw [hoff.get rfl]; simp only [go_sem, ↓reduceIte, Nat.reduceEqDiff, reduceCtorEq, Nat.reduceAdd, Nat.reduceLeDiff, Nat.reduceSub, Nat.reduceMul, Int.reduceEq, Nat.reduceBEq]
    have t10 : T' 10 = s := by rw [hoff.get rfl]; simp only [go_sem, ↓reduceIte, Nat.reduceEqDiff, reduceCtorEq, Nat.reduceAdd, Nat.reduceLeDiff, Nat.reduceSub, Nat.reduceMul, Int.reduceEq, Nat.reduceBEq]
    have hsH : H.sub (HL.set b5 (.row true 90 (gcells 2408 (stepL n a (n.lanes.take i))) 2408)) := sub_set0 z5 hsubL
    obtain ⟨bb, off, hia, hrd⟩ := (hs.sub (hsH.trans hsub)).at (k := .i64) (i := (i : Int)) (by omega) (by simp; omega)
    have hrow : (n.lanes.map encLane).getD (i : Int).toNat [] = encLane n.lanes[i] := by simp [List.getD_eq_getElem?_getD, hi]
    rw [hrow, laneRow] at hrd
    obtain ⟨f, t, hlv⟩ := laneV_of hv (l := n.lanes[i]) (by simp)
    have hlt : n.lanes.take (i + 1) = n.lanes.take i ++ [n.lanes[i]] := List.take_succ_eq_append_getElem hi
    generalize n.lanes[i] = l at *
    simp only [go_sem, ↓reduceIte, Nat.reduceEqDiff, reduceCtorEq, Nat.reduceAdd, Nat.reduceLeDiff, Nat.reduceSub, Nat.reduceMul, Int.reduceEq, Nat.reduceBEq, t10, hTi, hia, hrd]
    refine aw_alloc fun b7 hb7 => ?_
    have r2 : H' b2 = _ := sub_get hsub g2 x6
    have r3 : H' b3 = _ := sub_get hsub g3 x5
    have r5 : H' b5 = _ := sub_at hsub
    have y2 := some_ne r2 hb7
    have y3 := some_ne r3 hb7
    have y5 := some_ne r5 hb7
    have p1 := ptr_ix 8 301 b3 0 .i8 l.frm f hlv.ef hlv.f8
    have p2 := ptr_ix 8 301 b5 0 .i8 l.to t hlv.et hlv.t8
    have f8 := hlv.f8
    have t8 := hlv.t8
    have q1 := gc_rd true 90 2408 2408 a (0 + f * 301) 301 (by omega)
    have q2 := gc_apart 301 fun i => a (0 + f * 301 + i)
    simp only [Nat.zero_add] at p1 p2 q1 q2
    simp only [go_sem, ↓reduceIte, Nat.reduceEqDiff, reduceCtorEq, Nat.reduceAdd, Nat.reduceLeDiff, Nat.reduceSub, Nat.reduceMul, Int.reduceEq, Nat.reduceBEq, t2, t3, t5, r2, r3, y2, y3, p1, p2, q1, q2]
    refine aw_call (by (try simp only [go_sem, ↓reduceIte, Nat.reduceEqDiff, reduceCtorEq, Nat.reduceAdd, Nat.reduceLeDiff, Nat.reduceSub, Nat.reduceMul, Int.reduceEq, Nat.reduceBEq]) <;> rfl) (by (try simp only [go_sem, ↓reduceIte, Nat.reduceEqDiff, reduceCtorEq, Nat.reduceAdd, Nat.reduceLeDiff, Nat.reduceSub, Nat.reduceMul, Int.reduceEq, Nat.reduceBEq]) <;> rfl) (spec_ride n s l hlv (fun i => a (f * 301 + i)) (stepL n a (n.lanes.take i)) (bo := b5) (off := t * 301) (N := 2408) (tg := 90) (tt := 2408) (by omega) (by rw [set_ne y5]; exact r5) _ ?_)
    simp only [go_sem, ↓reduceIte, Nat.reduceEqDiff, reduceCtorEq, Nat.reduceAdd, Nat.reduceLeDiff, Nat.reduceSub, Nat.reduceMul, Int.reduceEq, Nat.reduceBEq]
    refine ⟨_, Hp.sub.refl _, ?_⟩
    have e : gcells 2408 (gor (stepL n a (n.lanes.take i)) (rideB l n (fun i => a (f * 301 + i)) (t * 301) 301)) = gcells 2408 (stepL n a (n.lanes.take (i + 1))) := by
      rw [hlt]
      refine gc_ext fun j _ => ?_
      simp only [gor, stepL, List.any_append, List.any_cons, List.any_nil, Bool.or_false, rideB, hlv.ef, hlv.et, Int.toNat_natCast]
    rw [e]
    exact Hp.sub.trans (sub_st hsub) (sub_set2 (sub_set hb7 (Hp.sub.refl _)))
  · rintro T' H' hl' hoff hTi hsub
    have t4 : T' 4 = .pointer (some ⟨b4, 0, none⟩) := by rw [hoff.get rfl]; simp only [go_sem, ↓reduceIte, Nat.reduceEqDiff, reduceCtorEq, Nat.reduceAdd, Nat.reduceLeDiff, Nat.reduceSub, Nat.reduceMul, Int.reduceEq, Nat.reduceBEq]
    have t5 : T' 5 = .pointer (some ⟨b5, 0, none⟩) := by rw [hoff.get rfl]; simp only [go_sem, ↓reduceIte, Nat.reduceEqDiff, reduceCtorEq, Nat.reduceAdd, Nat.reduceLeDiff, Nat.reduceSub, Nat.reduceMul, Int.reduceEq, Nat.reduceBEq]
    have r4 : H' b4 = _ := sub_get hsub g4 x4
    have r5 : H' b5 = _ := sub_at hsub
    rw [List.take_of_length_le (Nat.le_refl _)] at r5
    simp only [go_sem, ↓reduceIte, Nat.reduceEqDiff, reduceCtorEq, Nat.reduceAdd, Nat.reduceLeDiff, Nat.reduceSub, Nat.reduceMul, Int.reduceEq, Nat.reduceBEq, gc_rdall, gc_apart, gc_stall, gc_len, vBld_nil, t4, t5, r4, r5]
    refine retQ_c1 (b := b4) (off := 0) (by simp only [put_get, puto_none, t4]; rfl) (by rw [set_same, gc_rdall, Option.bind_some, gc_apart]) H ?_ hK
    exact sub_set0 z4 ((sub_set0 z5 hsubL).trans hsub)
end Go.Proofs.Ytonmmfjagkgifaa
