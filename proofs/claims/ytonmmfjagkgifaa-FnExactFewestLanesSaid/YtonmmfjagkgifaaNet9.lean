/- Nets: the arrivals from which one lane more leads to some. -/
import Derived.Test.YtonmmfjagkgifaaNet8
set_option linter.unusedVariables false
set_option linter.unusedSimpArgs false
namespace Go.Proofs.Ytonmmfjagkgifaa
open Go.RowKit
attribute [local go_sem] aw_mv aw_mkf aw_pick aw_bin aw_eqB aw_eqNil aw_eqAgg aw_un aw_conv aw_fa aw_ia aw_iaArr aw_ixArr aw_ixStr aw_fld aw_ext aw_bld aw_nilc aw_slc aw_slcArr aw_slcStr aw_len aw_cap aw_mnx aw_ld aw_st aw_guard_y aw_guard_n aw_nil aw_exit aw_ret aw_cond_t aw_cond_f aw_blk seqQ_norm seqQ_exit seqQ_ret blkQ_norm blkQ_exit_same blkQ_exit_ne blkQ_ret vPick_b vEqB_t vEqB_f vEqNil_sn vEqNil_ss vEqNil_pn vEqNil_ps vUn_neg vUn_not vUn_xor vConv_i vFa_p vIa_s vFld_a vExt_t vNilc_p vLen_s vLen_t vMnx_t vMnx_f abin_add abin_sub abin_mul abin_eql abin_neq abin_lss abin_leq abin_gtr abin_geq abin_and abin_or abin_xor abin_quo abin_rem abin_shl abin_shr abin_seq abin_sne abin_scat ev_tmp ev_const ev_func put_get puto_some puto_none args0_get List.getD_cons_succ List.getD_cons_zero Option.isSome_some Option.getD_some Option.isNone_none Option.isNone_some Option.map_some Option.map_none Value.bool.injEq Value.int.injEq add_mk aload_ptr rd_mk rdObj_row set_get astore_ptr apart_f apart_t List.length_cons List.length_nil List.drop_succ_cons List.drop_zero List.take_succ_cons List.take_zero List.map_cons List.map_nil Option.bind_some Option.bind_none ares_nil ares_tmp oneOf1 Nat.zero_add Nat.add_zero Bool.not_true Bool.not_false ne_eq not_false_eq_true not_true_eq_false decide_true decide_false Bool.true_and Bool.and_true Bool.false_eq_true and_self and_true true_and List.getElem?_cons_zero List.getElem?_cons_succ vc_agg vc_int vc_bool vc_slice aw_chk1 aw_chk2 st_agg st_int st_slice st_ptr one_int one_bool one_slice one_ptr one_str splice_eq aparts_nil aparts_cons afill_nil afill_cons rz0 rz1 rz2 List.all_cons List.all_nil Bool.and_self List.nil_append List.cons_append List.append_nil set_set

def backAt (l : LaneD) (n : NetD) (a : Nat → Bool) (h : Nat) : Bool := (List.range 301).any fun u => spn l n (l.to.toNat * 301 + h) (l.to.toNat * 301 + 300) (l.to.toNat * 301 + u) && a (l.to.toNat * 301 + u)
def backH (l : LaneD) (n : NetD) (a : Nat → Bool) (m : Nat) : Nat → Bool := fun i => (List.range m).any fun h => decide (i = l.frm.toNat * 301 + h) && backAt l n a h
def backL (n : NetD) (a : Nat → Bool) (ls : List LaneD) : Nat → Bool := fun i => ls.any fun l => backH l n a 301 i
theorem backH_succ (l : LaneD) (n : NetD) (a : Nat → Bool) (m i : Nat) : backH l n a (m + 1) i = (backH l n a m i || (decide (i = l.frm.toNat * 301 + m) && backAt l n a m)) := by
  unfold backH
  rw [List.range_succ, List.any_append]
  simp
theorem spec_back (n : NetD) (s : Value) (hv : validNet n = true) (a : Nat → Bool) {H : Hp} (hs : Sl H 4 s (n.lanes.map encLane)) (K : Value → Hp → Prop) (hK : K (.agg (gcells 2408 (backL n a n.lanes)).toArray) H) :
    ACalls Go.Proofs.Try.prog n_impl_Net_back #[.agg (encNet n s).toArray, .agg (gcells 2408 a).toArray] H K := by
  refine acalls_go fn_impl_Net_back rfl fun hl => ?_
  simp only [c_impl_Net_back, gc_zero]
  rw [netRow]
  refine aw_boxv (by (try simp only [go_sem, ↓reduceIte, Nat.reduceEqDiff, reduceCtorEq, Nat.reduceAdd, Nat.reduceLeDiff, Nat.reduceSub, Nat.reduceMul, Int.reduceEq, Nat.reduceBEq]) <;> rfl) fun b2 hb2 => ?_
  refine aw_boxv (by (try simp only [go_sem, ↓reduceIte, Nat.reduceEqDiff, reduceCtorEq, Nat.reduceAdd, Nat.reduceLeDiff, Nat.reduceSub, Nat.reduceMul, Int.reduceEq, Nat.reduceBEq]) <;> rfl) fun b3 hb3 => ?_
  rw [gc_vc, gc_len] at *
  refine aw_alloc fun b4 hb4 => ?_
  simp only [go_sem, ↓reduceIte, Nat.reduceEqDiff, reduceCtorEq, Nat.reduceAdd, Nat.reduceLeDiff, Nat.reduceSub, Nat.reduceMul, Int.reduceEq, Nat.reduceBEq, gc_rdall, gc_apart, gc_stall, gc_len, vBld_nil]
  refine aw_alloc fun b5 hb5 => ?_
  have x1 := ne_set hb3
  have x2 := ne_set hb4
  have x3 := ne_set (none_set hb4)
  have x4 := ne_set hb5
  have x5 := ne_set (none_set hb5)
  have x6 := ne_set (none_set (none_set hb5))
  have z5 : H b5 = none := none_set (none_set (none_set hb5))
  have z4 : H b4 = none := none_set (none_set hb4)
  have hlen := hs.len
  have hle := hs.le
  rw [List.length_map] at hlen hle
  simp only [go_sem, ↓reduceIte, Nat.reduceEqDiff, reduceCtorEq, Nat.reduceAdd, Nat.reduceLeDiff, Nat.reduceSub, Nat.reduceMul, Int.reduceEq, Nat.reduceBEq, gc_rdall, gc_apart, gc_stall, gc_len, vBld_nil, x1, x2, x3, x4, x5, x6, x1.symm, x2.symm, x3.symm, x4.symm, x5.symm, x6.symm, hlen]
  have hsubL : H.sub ((((H.set b2 (.row true 35 [.int .i8 n.st, .int .i16 n.stay, s] 3)).set b3 (.row true 90 (gcells 2408 a) 2408)).set b4 (.row true 90 (gcells 2408 fun x => false) 2408)).set b5 (.row true 90 (gcells 2408 fun x => false) 2408)) := (by repeat (first | (with_reducible exact Hp.sub.refl _) | (with_reducible assumption) | (with_reducible refine sub_set0 ?_ ?_) | exact none_set (by with_reducible assumption) | exact none_set (none_set (by with_reducible assumption)) | exact none_set (none_set (none_set (by with_reducible assumption)))))
  have g2 : ((((H.set b2 (.row true 35 [.int .i8 n.st, .int .i16 n.stay, s] 3)).set b3 (.row true 90 (gcells 2408 a) 2408)).set b4 (.row true 90 (gcells 2408 fun x => false) 2408)).set b5 (.row true 90 (gcells 2408 fun x => false) 2408)) b2 = some (.row true 35 [.int .i8 n.st, .int .i16 n.stay, s] 3) := by rw [set_ne x6, set_ne x3, set_ne x1, set_same]
  have g3 : ((((H.set b2 (.row true 35 [.int .i8 n.st, .int .i16 n.stay, s] 3)).set b3 (.row true 90 (gcells 2408 a) 2408)).set b4 (.row true 90 (gcells 2408 fun x => false) 2408)).set b5 (.row true 90 (gcells 2408 fun x => false) 2408)) b3 = some (.row true 90 (gcells 2408 a) 2408) := by rw [set_ne x5, set_ne x2, set_same]
  have g4 : ((((H.set b2 (.row true 35 [.int .i8 n.st, .int .i16 n.stay, s] 3)).set b3 (.row true 90 (gcells 2408 a) 2408)).set b4 (.row true 90 (gcells 2408 fun x => false) 2408)).set b5 (.row true 90 (gcells 2408 fun x => false) 2408)) b4 = some (.row true 90 (gcells 2408 fun x => false) 2408) := by rw [set_ne x4, set_same]
  have g5 : ((((H.set b2 (.row true 35 [.int .i8 n.st, .int .i16 n.stay, s] 3)).set b3 (.row true 90 (gcells 2408 a) 2408)).set b4 (.row true 90 (gcells 2408 fun x => false) 2408)).set b5 (.row true 90 (gcells 2408 fun x => false) 2408)) b5 = some (.row true 90 (gcells 2408 fun x => false) 2408) := by rw [set_same]
  have hlL : Live ((((H.set b2 (.row true 35 [.int .i8 n.st, .int .i16 n.stay, s] 3)).set b3 (.row true 90 (gcells 2408 a) 2408)).set b4 (.row true 90 (gcells 2408 fun x => false) 2408)).set b5 (.row true 90 (gcells 2408 fun x => false) 2408)) :=
    Live.set (Live.set (Live.set (Live.set hl _ _ _ _ (by simp)) _ _ _ _ (Nat.le_of_eq (gc_len _ _))) _ _ _ _ (Nat.le_of_eq (gc_len _ _))) _ _ _ _ (Nat.le_of_eq (gc_len _ _))
  generalize ((((H.set b2 (.row true 35 [.int .i8 n.st, .int .i16 n.stay, s] 3)).set b3 (.row true 90 (gcells 2408 a) 2408)).set b4 (.row true 90 (gcells 2408 fun x => false) 2408)).set b5 (.row true 90 (gcells 2408 fun x => false) 2408)) = HL at *
  refine aw_range hlL n.lanes.length (by omega) (fun i T' H' => (HL.set b5 (.row true 90 (gcells 2408 (backL n a (n.lanes.take i))) 2408)).sub H') HL (Hp.sub.refl _) (by (try simp only [go_sem, ↓reduceIte, Nat.reduceEqDiff, reduceCtorEq, Nat.reduceAdd, Nat.reduceLeDiff, Nat.reduceSub, Nat.reduceMul, Int.reduceEq, Nat.reduceBEq]) <;> rfl) (by (try simp only [go_sem, ↓reduceIte, Nat.reduceEqDiff, reduceCtorEq, Nat.reduceAdd, Nat.reduceLeDiff, Nat.reduceSub, Nat.reduceMul, Int.reduceEq, Nat.reduceBEq]) <;> rfl) ?_ rfl rfl (by decide) (by decide) ?_ ?_
  · refine sub_set_at (Hp.sub.refl _) ?_
    rw [g5]
    rfl
  · rintro i T' H' hi hl' hoff hTi hsub
    have t2 : T' 2 = .pointer (some ⟨b2, 0, none⟩) := by rw [hoff.get rfl]; simp only [go_sem, ↓reduceIte, Nat.reduceEqDiff, reduceCtorEq, Nat.reduceAdd, Nat.reduceLeDiff, Nat.reduceSub, Nat.reduceMul, Int.reduceEq, Nat.reduceBEq]
    have t3 : T' 3 = .pointer (some ⟨b3, 0, none⟩) := by rw [hoff.get rfl]; simp only [go_sem, ↓reduceIte, Nat.reduceEqDiff, reduceCtorEq, Nat.reduceAdd, Nat.reduceLeDiff, Nat.reduceSub, Nat.reduceMul, Int.reduceEq, Nat.reduceBEq]
    have t5 : T' 5 = .pointer (some ⟨b5, 0, none⟩) := by rw [hoff.get rfl]; simp only [go_sem, ↓reduceIte, Nat.reduceEqDiff, reduceCtorEq, Nat.reduceAdd, Nat.reduceLeDiff, Nat.reduceSub, Nat.reduceMul, Int.reduceEq, Nat.reduceBEq]
    have t12 : T' 12 = s := by rw [hoff.get rfl]; simp only [go_sem, ↓reduceIte, Nat.reduceEqDiff, reduceCtorEq, Nat.reduceAdd, Nat.reduceLeDiff, Nat.reduceSub, Nat.reduceMul, Int.reduceEq, Nat.reduceBEq]
    have hsH : H.sub (HL.set b5 (.row true 90 (gcells 2408 (backL n a (n.lanes.take i))) 2408)) := sub_set0 z5 hsubL
    obtain ⟨bb, off, hia, hrd⟩ := (hs.sub (hsH.trans hsub)).at (k := .i64) (i := (i : Int)) (by omega) (by simp; omega)
    have hrow : (n.lanes.map encLane).getD (i : Int).toNat [] = encLane n.lanes[i] := by simp [List.getD_eq_getElem?_getD, hi]
    rw [hrow, laneRow] at hrd
    obtain ⟨f, t, hlv⟩ := laneV_of hv (l := n.lanes[i]) (by simp)
    have hlt : n.lanes.take (i + 1) = n.lanes.take i ++ [n.lanes[i]] := List.take_succ_eq_append_getElem hi
    generalize n.lanes[i] = l at *
    obtain ⟨e1, e2, f8, t8, l1, lm, m40, s0, s40⟩ := hlv
    have ef : l.frm.toNat = f := by omega
    have et : l.to.toNat = t := by omega
    simp only [go_sem, ↓reduceIte, Nat.reduceEqDiff, reduceCtorEq, Nat.reduceAdd, Nat.reduceLeDiff, Nat.reduceSub, Nat.reduceMul, Int.reduceEq, Nat.reduceBEq, t12, hTi, hia, hrd]
    refine aw_alloc fun b7 hb7 => ?_
    have r2 : H' b2 = _ := sub_get hsub g2 x6
    have r3 : H' b3 = _ := sub_get hsub g3 x5
    have r5 : H' b5 = _ := sub_at hsub
    have y2 := some_ne r2 hb7
    have y3 := some_ne r3 hb7
    have y5 := some_ne r5 hb7
    have w1 : IntKind.i64.wrap l.least = l.least := wrap_i64 (by omega) (by omega)
    have w2 : IntKind.i64.wrap l.most = l.most := wrap_i64 (by omega) (by omega)
    have w3 : IntKind.i64.wrap n.stay = n.stay := wrap_i64 (by omega) (by omega)
    simp only [go_sem, ↓reduceIte, Nat.reduceEqDiff, reduceCtorEq, Nat.reduceAdd, Nat.reduceLeDiff, Nat.reduceSub, Nat.reduceMul, Int.reduceEq, Nat.reduceBEq]
    -- the hours
    have q2 : (H'.set b7 (.row true 95 [.int .i8 l.frm, .int .i8 l.to, .int .i16 l.least, .int .i16 l.most] 4)) b2 = some (.row true 35 [.int .i8 n.st, .int .i16 n.stay, s] 3) := by rw [set_ne y2]; exact r2
    have q3 : (H'.set b7 (.row true 95 [.int .i8 l.frm, .int .i8 l.to, .int .i16 l.least, .int .i16 l.most] 4)) b3 = some (.row true 90 (gcells 2408 a) 2408) := by rw [set_ne y3]; exact r3
    have q5 : (H'.set b7 (.row true 95 [.int .i8 l.frm, .int .i8 l.to, .int .i16 l.least, .int .i16 l.most] 4)) b5 = some (.row true 90 (gcells 2408 (backL n a (n.lanes.take i))) 2408) := by rw [set_ne y5]; exact r5
    have q7 : (H'.set b7 (.row true 95 [.int .i8 l.frm, .int .i8 l.to, .int .i16 l.least, .int .i16 l.most] 4)) b7 = some (.row true 95 [.int .i8 l.frm, .int .i8 l.to, .int .i16 l.least, .int .i16 l.most] 4) := set_same _ _ _
    have hs7 : H'.sub (H'.set b7 (.row true 95 [.int .i8 l.frm, .int .i8 l.to, .int .i16 l.least, .int .i16 l.most] 4)) := sub_set hb7 (Hp.sub.refl _)
    have hl7 : Live (H'.set b7 (.row true 95 [.int .i8 l.frm, .int .i8 l.to, .int .i16 l.least, .int .i16 l.most] 4)) := Live.set hl' _ _ _ _ (by simp)
    generalize H'.set b7 (.row true 95 [.int .i8 l.frm, .int .i8 l.to, .int .i16 l.least, .int .i16 l.most] 4) = H7 at *
    refine aw_rangeO hl7 301 (by omega) (fun h T2 H2 => (H7.set b5 (.row true 90 (gcells 2408 (gor (backL n a (n.lanes.take i)) (backH l n a h))) 2408)).sub H2) H7 (Hp.sub.refl _) (by (try simp only [go_sem, ↓reduceIte, Nat.reduceEqDiff, reduceCtorEq, Nat.reduceAdd, Nat.reduceLeDiff, Nat.reduceSub, Nat.reduceMul, Int.reduceEq, Nat.reduceBEq]) <;> rfl) ?_ (fun T' h => by simp [ev_const]) rfl (by decide) (by decide) ?_ ?_
    · refine sub_set_at (Hp.sub.refl _) ?_
      rw [q5, show gcells 2408 (gor (backL n a (n.lanes.take i)) (backH l n a 0)) = gcells 2408 (backL n a (n.lanes.take i)) from gc_ext fun j _ => by simp [gor, backH]]
    · rintro h T2 H2 hh hl2 hoff2 hTh hsub2
      have u2 : T2 2 = .pointer (some ⟨b2, 0, none⟩) := by rw [hoff2.get rfl]; simp only [go_sem, ↓reduceIte, Nat.reduceEqDiff, reduceCtorEq, Nat.reduceAdd, Nat.reduceLeDiff, Nat.reduceSub, Nat.reduceMul, Int.reduceEq, Nat.reduceBEq, t2]
      have u3 : T2 3 = .pointer (some ⟨b3, 0, none⟩) := by rw [hoff2.get rfl]; simp only [go_sem, ↓reduceIte, Nat.reduceEqDiff, reduceCtorEq, Nat.reduceAdd, Nat.reduceLeDiff, Nat.reduceSub, Nat.reduceMul, Int.reduceEq, Nat.reduceBEq, t3]
      have u5 : T2 5 = .pointer (some ⟨b5, 0, none⟩) := by rw [hoff2.get rfl]; simp only [go_sem, ↓reduceIte, Nat.reduceEqDiff, reduceCtorEq, Nat.reduceAdd, Nat.reduceLeDiff, Nat.reduceSub, Nat.reduceMul, Int.reduceEq, Nat.reduceBEq, t5]
      have u7 : T2 7 = .pointer (some ⟨b7, 0, none⟩) := by rw [hoff2.get rfl]; simp only [go_sem, ↓reduceIte, Nat.reduceEqDiff, reduceCtorEq, Nat.reduceAdd, Nat.reduceLeDiff, Nat.reduceSub, Nat.reduceMul, Int.reduceEq, Nat.reduceBEq]
      have v7 : H2 b7 = _ := sub_get hsub2 q7 (Ne.symm y5)
      have v2 : H2 b2 = _ := sub_get hsub2 q2 x6
      have v3 : H2 b3 = _ := sub_get hsub2 q3 x5
      have v5 : H2 b5 = _ := sub_at hsub2
      have w4 : IntKind.i64.wrap ((h : Int) + l.least) = ((h + l.least.toNat : Nat) : Int) := by rw [wrap_i64 (by omega) (by omega)]; omega
      simp only [go_sem, ↓reduceIte, Nat.reduceEqDiff, reduceCtorEq, Nat.reduceAdd, Nat.reduceLeDiff, Nat.reduceSub, Nat.reduceMul, Int.reduceEq, Nat.reduceBEq, u7, hTh, v7, w1, w4]
      refine aw_loopM hl2 (fun m T3 H3 => H3 = H2 ∧ ∃ d : Nat, ((d : Int) = l.least ∨ ((d : Int) - 1 ≤ l.most + n.stay ∧ h + d ≤ 301)) ∧ l.least ≤ d ∧ m = 400 - d ∧ T3 9 = .int .i64 ((h + d : Nat) : Int) ∧ ∀ u : Nat, h + l.least ≤ u → u < h + d → a (t * 301 + u) = false) (400 - l.least.toNat) H2 (Hp.sub.refl _)
        ⟨rfl, l.least.toNat, .inl (by omega), by omega, rfl, (by (try simp only [go_sem, ↓reduceIte, Nat.reduceEqDiff, reduceCtorEq, Nat.reduceAdd, Nat.reduceLeDiff, Nat.reduceSub, Nat.reduceMul, Int.reduceEq, Nat.reduceBEq]) <;> rfl), fun u h1 h2 => absurd h1 (by omega)⟩ ?_
      rintro m T3 H3 hl3 hoff3 ⟨rfl, d, hd1, hd2, rfl, hT9, hno⟩
      have z2 : T3 2 = .pointer (some ⟨b2, 0, none⟩) := by rw [hoff3.get rfl]; simp only [go_sem, ↓reduceIte, Nat.reduceEqDiff, reduceCtorEq, Nat.reduceAdd, Nat.reduceLeDiff, Nat.reduceSub, Nat.reduceMul, Int.reduceEq, Nat.reduceBEq, u2]
      have z3 : T3 3 = .pointer (some ⟨b3, 0, none⟩) := by rw [hoff3.get rfl]; simp only [go_sem, ↓reduceIte, Nat.reduceEqDiff, reduceCtorEq, Nat.reduceAdd, Nat.reduceLeDiff, Nat.reduceSub, Nat.reduceMul, Int.reduceEq, Nat.reduceBEq, u3]
      have z5' : T3 5 = .pointer (some ⟨b5, 0, none⟩) := by rw [hoff3.get rfl]; simp only [go_sem, ↓reduceIte, Nat.reduceEqDiff, reduceCtorEq, Nat.reduceAdd, Nat.reduceLeDiff, Nat.reduceSub, Nat.reduceMul, Int.reduceEq, Nat.reduceBEq, u5]
      have z7 : T3 7 = .pointer (some ⟨b7, 0, none⟩) := by rw [hoff3.get rfl]; simp only [go_sem, ↓reduceIte, Nat.reduceEqDiff, reduceCtorEq, Nat.reduceAdd, Nat.reduceLeDiff, Nat.reduceSub, Nat.reduceMul, Int.reduceEq, Nat.reduceBEq, u7]
      have z8 : T3 8 = .int .i64 h := by rw [hoff3.get rfl]; simp only [go_sem, ↓reduceIte, Nat.reduceEqDiff, reduceCtorEq, Nat.reduceAdd, Nat.reduceLeDiff, Nat.reduceSub, Nat.reduceMul, Int.reduceEq, Nat.reduceBEq]
      have w5 : IntKind.i64.wrap ((h : Int) + n.stay) = (h : Int) + n.stay := wrap_i64 (by omega) (by omega)
      have w6 : IntKind.i64.wrap ((h : Int) + n.stay + l.most) = (h : Int) + n.stay + l.most := wrap_i64 (by omega) (by omega)
      by_cases c : (d : Int) ≤ l.most + n.stay ∧ h + d ≤ 300
      · have k1 : decide (((h + d : Nat) : Int) ≤ (if (300 : Int) < (h : Int) + n.stay + l.most then 300 else (h : Int) + n.stay + l.most)) = true := by
          rw [decide_eq_true_eq]; split <;> omega
        have p1 := ptr_ix 8 301 b3 0 .i8 l.to t e2 t8
        have p2 := ptr_ix 301 1 b3 (0 + t * 301) .i64 ((h + d : Nat) : Int) (h + d) rfl (by omega)
        have rd := gc_rd1 true 90 2408 2408 a (0 + t * 301 + (h + d) * 1) (by omega)
        simp only [Nat.zero_add, Nat.mul_one] at p1 p2 rd
        cases ea : a (t * 301 + (h + d)) with
        | true =>
          rw [ea] at rd
          have p3 := ptr_ix 8 301 b5 0 .i8 l.frm f e1 f8
          have p4 := ptr_ix 301 1 b5 (0 + f * 301) .i64 (h : Int) h rfl (by omega)
          have st := gc_st1 90 2408 2408 (gor (backL n a (n.lanes.take i)) (backH l n a h)) (0 + f * 301 + h * 1) true (by omega)
          simp only [Nat.zero_add, Nat.mul_one] at p3 p4 st
          rw [← v5] at st
          simp only [go_sem, ↓reduceIte, Nat.reduceEqDiff, reduceCtorEq, Nat.reduceAdd, Nat.reduceLeDiff, Nat.reduceSub, Nat.reduceMul, Int.reduceEq, Nat.reduceBEq, z2, z3, z5', z7, z8, hT9, v7, v2, v3, w2, w3, w5, w6, k1, p1, p2, rd, p3, p4, st]
          show lpQ _ _ _ (.exit 4) _ _
          simp only [lpQ]
          simp only [go_sem, ↓reduceIte, Nat.reduceEqDiff, reduceCtorEq, Nat.reduceAdd, Nat.reduceLeDiff, Nat.reduceSub, Nat.reduceMul, Int.reduceEq, Nat.reduceBEq]
          have hit : backAt l n a h = true := by
            refine List.any_eq_true.2 ⟨h + d, by simp; omega, ?_⟩
            rw [et, ea, Bool.and_true]
            simp only [spn]
            exact decide_eq_true (by omega)
          have e : gcells 2408 (gup (gor (backL n a (n.lanes.take i)) (backH l n a h)) (f * 301 + h) true) = gcells 2408 (gor (backL n a (n.lanes.take i)) (backH l n a (h + 1))) := by
            refine gc_ext fun j _ => ?_
            simp only [gup, gor, backH_succ, hit, Bool.and_true, ef]
            split
            · rename_i hj; simp [hj]
            · rename_i hj; simp [hj]
          rw [e]
          exact ⟨_, Hp.sub.refl _, sub_st hsub2⟩
        | false =>
          rw [ea] at rd
          have w7 : IntKind.i64.wrap (((h + d : Nat) : Int) + 1) = ((h + (d + 1) : Nat) : Int) := by rw [wrap_i64 (by omega) (by omega)]; omega
          simp only [go_sem, ↓reduceIte, Nat.reduceEqDiff, reduceCtorEq, Nat.reduceAdd, Nat.reduceLeDiff, Nat.reduceSub, Nat.reduceMul, Int.reduceEq, Nat.reduceBEq, z2, z3, z5', z7, z8, hT9, v7, v2, v3, w2, w3, w5, w6, k1, p1, p2, rd, w7]
          refine ⟨400 - (d + 1), _, by omega, Hp.sub.refl _, rfl, d + 1, .inr (by omega), by omega, rfl, (by (try simp only [go_sem, ↓reduceIte, Nat.reduceEqDiff, reduceCtorEq, Nat.reduceAdd, Nat.reduceLeDiff, Nat.reduceSub, Nat.reduceMul, Int.reduceEq, Nat.reduceBEq]) <;> rfl), fun u h1 h2 => ?_⟩
          by_cases e : u = h + d
          · rw [e]; exact ea
          · exact hno u h1 (by omega)
      · have k1 : decide (((h + d : Nat) : Int) ≤ (if (300 : Int) < (h : Int) + n.stay + l.most then 300 else (h : Int) + n.stay + l.most)) = false := by
          rw [decide_eq_false_iff_not]; split <;> omega
        simp only [go_sem, ↓reduceIte, Nat.reduceEqDiff, reduceCtorEq, Nat.reduceAdd, Nat.reduceLeDiff, Nat.reduceSub, Nat.reduceMul, Int.reduceEq, Nat.reduceBEq, z2, z3, z5', z7, z8, hT9, v7, v2, v3, w2, w3, w5, w6, k1]
        show lpQ _ _ _ (.exit 4) _ _
        simp only [lpQ]
        simp only [go_sem, ↓reduceIte, Nat.reduceEqDiff, reduceCtorEq, Nat.reduceAdd, Nat.reduceLeDiff, Nat.reduceSub, Nat.reduceMul, Int.reduceEq, Nat.reduceBEq]
        have miss : backAt l n a h = false := by
          refine List.any_eq_false.2 fun u hu => ?_
          simp only [List.mem_range] at hu
          rw [et]
          by_cases hsp : spn l n (t * 301 + h) (t * 301 + 300) (t * 301 + u) = true
          · simp only [spn, decide_eq_true_eq] at hsp
            rw [hno u (by omega) (by omega)]
            simp
          · simp [hsp]
        have e : gcells 2408 (gor (backL n a (n.lanes.take i)) (backH l n a (h + 1))) = gcells 2408 (gor (backL n a (n.lanes.take i)) (backH l n a h)) := by
          refine gc_ext fun j _ => ?_
          simp [gor, backH_succ, miss]
        refine ⟨_, Hp.sub.refl _, ?_⟩
        show (H7.set b5 (.row true 90 (gcells 2408 (gor (backL n a (n.lanes.take i)) (backH l n a (h + 1)))) 2408)).sub _
        rw [e]
        exact hsub2
    · rintro T2 H2 hl2 hoff2 hTh hsub2
      simp only [go_sem, ↓reduceIte, Nat.reduceEqDiff, reduceCtorEq, Nat.reduceAdd, Nat.reduceLeDiff, Nat.reduceSub, Nat.reduceMul, Int.reduceEq, Nat.reduceBEq]
      refine ⟨_, Hp.sub.refl _, ?_⟩
      have e : gcells 2408 (gor (backL n a (n.lanes.take i)) (backH l n a 301)) = gcells 2408 (backL n a (n.lanes.take (i + 1))) := by
        rw [hlt]
        refine gc_ext fun j _ => ?_
        simp only [gor, backL, List.any_append, List.any_cons, List.any_nil, Bool.or_false]
      show (HL.set b5 (.row true 90 (gcells 2408 (backL n a (n.lanes.take (i + 1)))) 2408)).sub _
      rw [← e]
      exact Hp.sub.trans (Hp.sub.trans (sub_st hsub) (sub_set2 hs7)) hsub2
  · rintro T' H' hl' hoff hTi hsub
    have t4 : T' 4 = .pointer (some ⟨b4, 0, none⟩) := by rw [hoff.get rfl]; simp only [go_sem, ↓reduceIte, Nat.reduceEqDiff, reduceCtorEq, Nat.reduceAdd, Nat.reduceLeDiff, Nat.reduceSub, Nat.reduceMul, Int.reduceEq, Nat.reduceBEq]
    have t5 : T' 5 = .pointer (some ⟨b5, 0, none⟩) := by rw [hoff.get rfl]; simp only [go_sem, ↓reduceIte, Nat.reduceEqDiff, reduceCtorEq, Nat.reduceAdd, Nat.reduceLeDiff, Nat.reduceSub, Nat.reduceMul, Int.reduceEq, Nat.reduceBEq]
    have r4 : H' b4 = _ := sub_get hsub g4 x4
    have r5 : H' b5 = _ := sub_at hsub
    rw [List.take_of_length_le (Nat.le_refl _)] at r5
    simp only [go_sem, ↓reduceIte, Nat.reduceEqDiff, reduceCtorEq, Nat.reduceAdd, Nat.reduceLeDiff, Nat.reduceSub, Nat.reduceMul, Int.reduceEq, Nat.reduceBEq, gc_rdall, gc_apart, gc_stall, gc_len, vBld_nil, t4, t5, r4, r5]
    refine retQ_c1 (b := b4) (off := 0) (by simp only [put_get, puto_none, t4]; rfl) (by rw [set_same, gc_rdall, Option.bind_some, gc_apart]) H ?_ hK
    exact sub_set0 z4 ((sub_set0 z5 hsubL).trans hsub)
end Go.Proofs.Ytonmmfjagkgifaa
