/- Nets: the reference's arrivals from which one lane leads to some. -/
import Derived.Test.YtonmmfjagkgifaaNet9
set_option linter.unusedVariables false
set_option linter.unusedSimpArgs false
namespace Go.Proofs.Ytonmmfjagkgifaa
open Go.RowKit
attribute [local go_sem] aw_mv aw_mkf aw_pick aw_bin aw_eqB aw_eqNil aw_eqAgg aw_un aw_conv aw_fa aw_ia aw_iaArr aw_ixArr aw_ixStr aw_fld aw_ext aw_bld aw_nilc aw_slc aw_slcArr aw_slcStr aw_len aw_cap aw_mnx aw_ld aw_st aw_guard_y aw_guard_n aw_nil aw_exit aw_ret aw_cond_t aw_cond_f aw_blk seqQ_norm seqQ_exit seqQ_ret blkQ_norm blkQ_exit_same blkQ_exit_ne blkQ_ret vPick_b vEqB_t vEqB_f vEqNil_sn vEqNil_ss vEqNil_pn vEqNil_ps vUn_neg vUn_not vUn_xor vConv_i vFa_p vIa_s vFld_a vExt_t vNilc_p vLen_s vLen_t vMnx_t vMnx_f abin_add abin_sub abin_mul abin_eql abin_neq abin_lss abin_leq abin_gtr abin_geq abin_and abin_or abin_xor abin_quo abin_rem abin_shl abin_shr abin_seq abin_sne abin_scat ev_tmp ev_const ev_func put_get puto_some puto_none args0_get List.getD_cons_succ List.getD_cons_zero Option.isSome_some Option.getD_some Option.isNone_none Option.isNone_some Option.map_some Option.map_none Value.bool.injEq Value.int.injEq add_mk aload_ptr rd_mk rdObj_row set_get astore_ptr apart_f apart_t List.length_cons List.length_nil List.drop_succ_cons List.drop_zero List.take_succ_cons List.take_zero List.map_cons List.map_nil Option.bind_some Option.bind_none ares_nil ares_tmp oneOf1 Nat.zero_add Nat.add_zero Bool.not_true Bool.not_false ne_eq not_false_eq_true not_true_eq_false decide_true decide_false Bool.true_and Bool.and_true Bool.false_eq_true and_self and_true true_and List.getElem?_cons_zero List.getElem?_cons_succ vc_agg vc_int vc_bool vc_slice aw_chk1 aw_chk2 st_agg st_int st_slice st_ptr one_int one_bool one_slice one_ptr one_str splice_eq aparts_nil aparts_cons afill_nil afill_cons rz0 rz1 rz2 List.all_cons List.all_nil Bool.and_self List.nil_append List.cons_append List.append_nil set_set

def hitTo (l : LaneD) (a : Nat → Bool) (t h d : Nat) : Bool := (List.range 301).any fun u => decide ((h : Int) + l.least ≤ u ∧ u < h + d) && a (t * 301 + u)
theorem hitTo_succ (l : LaneD) (a : Nat → Bool) (t h d : Nat) (hd : l.least ≤ d) (hu : h + d < 301) : hitTo l a t h (d + 1) = (hitTo l a t h d || a (t * 301 + (h + d))) := by
  apply Bool.eq_iff_iff.2
  simp only [hitTo, List.any_eq_true, Bool.or_eq_true, Bool.and_eq_true, decide_eq_true_eq, List.mem_range]
  constructor
  · rintro ⟨u, h1, ⟨h2, h3⟩, h4⟩
    by_cases e : u = h + d
    · right; rw [← e]; exact h4
    · left; exact ⟨u, h1, ⟨h2, by omega⟩, h4⟩
  · rintro (⟨u, h1, ⟨h2, h3⟩, h4⟩ | h4)
    · exact ⟨u, h1, ⟨h2, by omega⟩, h4⟩
    · exact ⟨h + d, hu, ⟨by omega, by omega⟩, h4⟩
theorem spec_l07Back (n : NetD) (s : Value) (hv : validNet n = true) (a : Nat → Bool) {H : Hp} (hs : Sl H 4 s (n.lanes.map encLane)) {b2 ty2 tot2 b3 ty3 tot3 : Nat} {own2 own3 : Bool} (hb2 : H b2 = some (.row own2 ty2 (encNet n s) tot2)) (hb3 : H b3 = some (.row own3 ty3 (gcells 2408 a) tot3)) (K : Value → Hp → Prop)
    (hK : ∀ b, H b = none → K (.pointer (some ⟨b, 0, none⟩)) (H.set b (.row true 80 (gcells 2408 (backL n a n.lanes)) 2408))) :
    ACalls Go.Proofs.Try.prog n_spec_l07Back #[.pointer (some ⟨b2, 0, none⟩), .pointer (some ⟨b3, 0, none⟩)] H K := by
  refine acalls_go fn_spec_l07Back rfl fun hl => ?_
  simp only [c_spec_l07Back, gc_zero]
  rw [netRow] at hb2
  have hlen := hs.len
  have hle := hs.le
  rw [List.length_map] at hlen hle
  simp only [go_sem, ↓reduceIte, Nat.reduceEqDiff, reduceCtorEq, Nat.reduceAdd, Nat.reduceLeDiff, Nat.reduceSub, Nat.reduceMul, Int.reduceEq, Nat.reduceBEq, gc_rdall, gc_apart, gc_stall, gc_len, vBld_nil]
  refine aw_boxv (by (try simp only [go_sem, ↓reduceIte, Nat.reduceEqDiff, reduceCtorEq, Nat.reduceAdd, Nat.reduceLeDiff, Nat.reduceSub, Nat.reduceMul, Int.reduceEq, Nat.reduceBEq]) <;> rfl) fun b5 z5 => ?_
  rw [gc_vc, gc_len] at *
  have x5 := some_ne hb3 z5
  have x6 := some_ne hb2 z5
  simp only [go_sem, ↓reduceIte, Nat.reduceEqDiff, reduceCtorEq, Nat.reduceAdd, Nat.reduceLeDiff, Nat.reduceSub, Nat.reduceMul, Int.reduceEq, Nat.reduceBEq]
  have hsubL : H.sub (H.set b5 (.row true 80 (gcells 2408 fun x => false) 2408)) := sub_set z5 (Hp.sub.refl _)
  have g2 : (H.set b5 (.row true 80 (gcells 2408 fun x => false) 2408)) b2 = some (.row own2 ty2 [.int .i8 n.st, .int .i16 n.stay, s] tot2) := by rw [set_ne x6]; exact hb2
  have g3 : (H.set b5 (.row true 80 (gcells 2408 fun x => false) 2408)) b3 = some (.row own3 ty3 (gcells 2408 a) tot3) := by rw [set_ne x5]; exact hb3
  have g5 : (H.set b5 (.row true 80 (gcells 2408 fun x => false) 2408)) b5 = some (.row true 80 (gcells 2408 fun x => false) 2408) := by rw [set_same]
  have hlL : Live (H.set b5 (.row true 80 (gcells 2408 fun x => false) 2408)) := Live.set hl _ _ _ _ (Nat.le_of_eq (gc_len _ _))
  generalize (H.set b5 (.row true 80 (gcells 2408 fun x => false) 2408)) = HL at *
  refine aw_loopM hlL (fun m T' H' => ∃ i : Nat, i ≤ n.lanes.length ∧ m = n.lanes.length - i ∧ T' 6 = .int .i64 i ∧ (HL.set b5 (.row true 80 (gcells 2408 (backL n a (n.lanes.take i))) 2408)).sub H') n.lanes.length HL (Hp.sub.refl _) ⟨0, by omega, rfl, (by (try simp only [go_sem, ↓reduceIte, Nat.reduceEqDiff, reduceCtorEq, Nat.reduceAdd, Nat.reduceLeDiff, Nat.reduceSub, Nat.reduceMul, Int.reduceEq, Nat.reduceBEq]) <;> rfl), ?_⟩ ?_
  · refine sub_set_at (Hp.sub.refl _) ?_
    rw [g5]
    rfl
  rintro m T' H' hl' hoff ⟨i, hile, rfl, hTi, hsub⟩
  have t0 : T' 0 = .pointer (some ⟨b2, 0, none⟩) := by rw [hoff.get rfl]; simp only [go_sem, ↓reduceIte, Nat.reduceEqDiff, reduceCtorEq, Nat.reduceAdd, Nat.reduceLeDiff, Nat.reduceSub, Nat.reduceMul, Int.reduceEq, Nat.reduceBEq]
  have t1 : T' 1 = .pointer (some ⟨b3, 0, none⟩) := by rw [hoff.get rfl]; simp only [go_sem, ↓reduceIte, Nat.reduceEqDiff, reduceCtorEq, Nat.reduceAdd, Nat.reduceLeDiff, Nat.reduceSub, Nat.reduceMul, Int.reduceEq, Nat.reduceBEq]
  have t5 : T' 5 = .pointer (some ⟨b5, 0, none⟩) := by rw [hoff.get rfl]; simp only [go_sem, ↓reduceIte, Nat.reduceEqDiff, reduceCtorEq, Nat.reduceAdd, Nat.reduceLeDiff, Nat.reduceSub, Nat.reduceMul, Int.reduceEq, Nat.reduceBEq]
  have r2 : H' b2 = _ := sub_get hsub g2 x6
  have r3 : H' b3 = _ := sub_get hsub g3 x5
  have r5 : H' b5 = _ := sub_at hsub
  by_cases hi : i < n.lanes.length
  · have hd : decide ((i : Int) < (n.lanes.length : Int)) = true := by simp [hi]
    have hsH : H.sub (HL.set b5 (.row true 80 (gcells 2408 (backL n a (n.lanes.take i))) 2408)) := sub_set0 z5 hsubL
    obtain ⟨bb, off, hia, hrd⟩ := (hs.sub (hsH.trans hsub)).at (k := .i64) (i := (i : Int)) (by omega) (by simp; omega)
    have hrow : (n.lanes.map encLane).getD (i : Int).toNat [] = encLane n.lanes[i] := by simp [List.getD_eq_getElem?_getD, hi]
    rw [hrow, laneRow] at hrd
    obtain ⟨f, t, hlv⟩ := laneV_of hv (l := n.lanes[i]) (by simp)
    have hlt : n.lanes.take (i + 1) = n.lanes.take i ++ [n.lanes[i]] := List.take_succ_eq_append_getElem hi
    have hpos : n.lanes.length - (i + 1) < n.lanes.length - i := by omega
    generalize n.lanes[i] = l at *
    obtain ⟨e1, e2, f8, t8, l1, lm, m40, s0, s40⟩ := hlv
    have ef : l.frm.toNat = f := by omega
    have et : l.to.toNat = t := by omega
    simp only [go_sem, ↓reduceIte, Nat.reduceEqDiff, reduceCtorEq, Nat.reduceAdd, Nat.reduceLeDiff, Nat.reduceSub, Nat.reduceMul, Int.reduceEq, Nat.reduceBEq, t0, hTi, r2, hlen, hd, hia, hrd]
    refine aw_alloc fun b7 hb7 => ?_
    have y2 := some_ne r2 hb7
    have y3 := some_ne r3 hb7
    have y5 := some_ne r5 hb7
    have w1 : IntKind.i64.wrap l.least = l.least := wrap_i64 (by omega) (by omega)
    have w2 : IntKind.i64.wrap l.most = l.most := wrap_i64 (by omega) (by omega)
    have w3 : IntKind.i64.wrap n.stay = n.stay := wrap_i64 (by omega) (by omega)
    have w4 : IntKind.i64.wrap (l.most + n.stay) = l.most + n.stay := wrap_i64 (by omega) (by omega)
    simp only [go_sem, ↓reduceIte, Nat.reduceEqDiff, reduceCtorEq, Nat.reduceAdd, Nat.reduceLeDiff, Nat.reduceSub, Nat.reduceMul, Int.reduceEq, Nat.reduceBEq]
    have q2 : (H'.set b7 (.row true 95 [.int .i8 l.frm, .int .i8 l.to, .int .i16 l.least, .int .i16 l.most] 4)) b2 = some (.row own2 ty2 [.int .i8 n.st, .int .i16 n.stay, s] tot2) := by rw [set_ne y2]; exact r2
    have q3 : (H'.set b7 (.row true 95 [.int .i8 l.frm, .int .i8 l.to, .int .i16 l.least, .int .i16 l.most] 4)) b3 = some (.row own3 ty3 (gcells 2408 a) tot3) := by rw [set_ne y3]; exact r3
    have q5 : (H'.set b7 (.row true 95 [.int .i8 l.frm, .int .i8 l.to, .int .i16 l.least, .int .i16 l.most] 4)) b5 = some (.row true 80 (gcells 2408 (backL n a (n.lanes.take i))) 2408) := by rw [set_ne y5]; exact r5
    have q7 : (H'.set b7 (.row true 95 [.int .i8 l.frm, .int .i8 l.to, .int .i16 l.least, .int .i16 l.most] 4)) b7 = some (.row true 95 [.int .i8 l.frm, .int .i8 l.to, .int .i16 l.least, .int .i16 l.most] 4) := set_same _ _ _
    have hs7 : H'.sub (H'.set b7 (.row true 95 [.int .i8 l.frm, .int .i8 l.to, .int .i16 l.least, .int .i16 l.most] 4)) := sub_set hb7 (Hp.sub.refl _)
    have hl7 : Live (H'.set b7 (.row true 95 [.int .i8 l.frm, .int .i8 l.to, .int .i16 l.least, .int .i16 l.most] 4)) := Live.set hl' _ _ _ _ (by simp)
    generalize H'.set b7 (.row true 95 [.int .i8 l.frm, .int .i8 l.to, .int .i16 l.least, .int .i16 l.most] 4) = H7 at *
    refine aw_forN hl7 301 (by omega) 0 (by omega) (fun h T2 H2 => (H7.set b5 (.row true 80 (gcells 2408 (gor (backL n a (n.lanes.take i)) (backH l n a h))) 2408)).sub H2) H7 (Hp.sub.refl _) (by (try simp only [go_sem, ↓reduceIte, Nat.reduceEqDiff, reduceCtorEq, Nat.reduceAdd, Nat.reduceLeDiff, Nat.reduceSub, Nat.reduceMul, Int.reduceEq, Nat.reduceBEq]) <;> rfl) ?_ (fun h T' hh hoff' => ?_) rfl (by decide) (by decide) ?_ ?_
    · refine sub_set_at (Hp.sub.refl _) ?_
      rw [q5, show gcells 2408 (gor (backL n a (n.lanes.take i)) (backH l n a 0)) = gcells 2408 (backL n a (n.lanes.take i)) from gc_ext fun j _ => by simp [gor, backH]]
    · rw [ev_const, abin_leq]
      exact congrArg (fun z => some (Value.bool z)) (decide_eq_decide.2 (by omega))
    · rintro h T2 H2 hh hl2 hoff2 hTh hsub2
      have u0 : T2 0 = .pointer (some ⟨b2, 0, none⟩) := by rw [hoff2.get rfl]; simp only [go_sem, ↓reduceIte, Nat.reduceEqDiff, reduceCtorEq, Nat.reduceAdd, Nat.reduceLeDiff, Nat.reduceSub, Nat.reduceMul, Int.reduceEq, Nat.reduceBEq, t0]
      have u1 : T2 1 = .pointer (some ⟨b3, 0, none⟩) := by rw [hoff2.get rfl]; simp only [go_sem, ↓reduceIte, Nat.reduceEqDiff, reduceCtorEq, Nat.reduceAdd, Nat.reduceLeDiff, Nat.reduceSub, Nat.reduceMul, Int.reduceEq, Nat.reduceBEq, t1]
      have u5 : T2 5 = .pointer (some ⟨b5, 0, none⟩) := by rw [hoff2.get rfl]; simp only [go_sem, ↓reduceIte, Nat.reduceEqDiff, reduceCtorEq, Nat.reduceAdd, Nat.reduceLeDiff, Nat.reduceSub, Nat.reduceMul, Int.reduceEq, Nat.reduceBEq, t5]
      have u7 : T2 7 = .pointer (some ⟨b7, 0, none⟩) := by rw [hoff2.get rfl]; simp only [go_sem, ↓reduceIte, Nat.reduceEqDiff, reduceCtorEq, Nat.reduceAdd, Nat.reduceLeDiff, Nat.reduceSub, Nat.reduceMul, Int.reduceEq, Nat.reduceBEq]
      have v7 : H2 b7 = _ := sub_get hsub2 q7 (Ne.symm y5)
      have hhit0 : hitTo l a t h l.least.toNat = false := List.any_eq_false.2 fun u _ => by
        rw [show decide ((h : Int) + l.least ≤ u ∧ u < h + l.least.toNat) = false from decide_eq_false (by omega)]; simp
      simp only [go_sem, ↓reduceIte, Nat.reduceEqDiff, reduceCtorEq, Nat.reduceAdd, Nat.reduceLeDiff, Nat.reduceSub, Nat.reduceMul, Int.reduceEq, Nat.reduceBEq, u7, v7, w1]
      refine aw_loopM hl2 (fun m T3 H3 => ∃ d : Nat, ((d : Int) = l.least ∨ ((d : Int) - 1 ≤ l.most + n.stay ∧ h + d ≤ 301)) ∧ l.least ≤ d ∧ m = 400 - d ∧ T3 9 = .int .i64 (d : Int) ∧ (H7.set b5 (.row true 80 (gcells 2408 (gor (gor (backL n a (n.lanes.take i)) (backH l n a h)) (fun j => decide (j = f * 301 + h) && hitTo l a t h d))) 2408)).sub H3) (400 - l.least.toNat) H2 (Hp.sub.refl _)
        ⟨l.least.toNat, .inl (by omega), by omega, rfl, ?_, ?_⟩ ?_
      · simp only [go_sem, ↓reduceIte, Nat.reduceEqDiff, reduceCtorEq, Nat.reduceAdd, Nat.reduceLeDiff, Nat.reduceSub, Nat.reduceMul, Int.reduceEq, Nat.reduceBEq]
        congr 1; omega
      · rw [show gcells 2408 (gor (gor (backL n a (n.lanes.take i)) (backH l n a h)) (fun j => decide (j = f * 301 + h) && hitTo l a t h l.least.toNat)) = gcells 2408 (gor (backL n a (n.lanes.take i)) (backH l n a h)) from gc_ext fun j _ => by simp [gor, hhit0]]
        exact hsub2
      rintro m T3 H3 hl3 hoff3 ⟨d, hd1, hd2, rfl, hT9, hsub3⟩
      have z0 : T3 0 = .pointer (some ⟨b2, 0, none⟩) := by rw [hoff3.get rfl]; simp only [go_sem, ↓reduceIte, Nat.reduceEqDiff, reduceCtorEq, Nat.reduceAdd, Nat.reduceLeDiff, Nat.reduceSub, Nat.reduceMul, Int.reduceEq, Nat.reduceBEq, u0]
      have z1 : T3 1 = .pointer (some ⟨b3, 0, none⟩) := by rw [hoff3.get rfl]; simp only [go_sem, ↓reduceIte, Nat.reduceEqDiff, reduceCtorEq, Nat.reduceAdd, Nat.reduceLeDiff, Nat.reduceSub, Nat.reduceMul, Int.reduceEq, Nat.reduceBEq, u1]
      have z5' : T3 5 = .pointer (some ⟨b5, 0, none⟩) := by rw [hoff3.get rfl]; simp only [go_sem, ↓reduceIte, Nat.reduceEqDiff, reduceCtorEq, Nat.reduceAdd, Nat.reduceLeDiff, Nat.reduceSub, Nat.reduceMul, Int.reduceEq, Nat.reduceBEq, u5]
      have z7 : T3 7 = .pointer (some ⟨b7, 0, none⟩) := by rw [hoff3.get rfl]; simp only [go_sem, ↓reduceIte, Nat.reduceEqDiff, reduceCtorEq, Nat.reduceAdd, Nat.reduceLeDiff, Nat.reduceSub, Nat.reduceMul, Int.reduceEq, Nat.reduceBEq, u7]
      have z8 : T3 8 = .int .i64 h := by rw [hoff3.get rfl]; simp only [go_sem, ↓reduceIte, Nat.reduceEqDiff, reduceCtorEq, Nat.reduceAdd, Nat.reduceLeDiff, Nat.reduceSub, Nat.reduceMul, Int.reduceEq, Nat.reduceBEq, hTh]
      have v7 : H3 b7 = _ := sub_get hsub3 q7 (Ne.symm y5)
      have v2 : H3 b2 = _ := sub_get hsub3 q2 x6
      have v3 : H3 b3 = _ := sub_get hsub3 q3 x5
      have v5 : H3 b5 = _ := sub_at hsub3
      have fin : (¬ (d : Int) ≤ l.most + n.stay ∨ 300 < h + d) → gcells 2408 (gor (gor (backL n a (n.lanes.take i)) (backH l n a h)) (fun j => decide (j = f * 301 + h) && hitTo l a t h d)) = gcells 2408 (gor (backL n a (n.lanes.take i)) (backH l n a (h + 1))) := by
        intro hd3
        have eb : backAt l n a h = hitTo l a t h d := by
          apply Bool.eq_iff_iff.2
          simp only [backAt, hitTo, List.any_eq_true, Bool.and_eq_true, spn, decide_eq_true_eq, List.mem_range, et]
          constructor
          · rintro ⟨u, h1, h2, h3⟩; exact ⟨u, h1, by omega, h3⟩
          · rintro ⟨u, h1, h2, h3⟩; exact ⟨u, h1, by omega, h3⟩
        refine gc_ext fun j _ => ?_
        simp only [gor, backH_succ, ef, eb, Bool.or_assoc]
      by_cases c1 : (d : Int) ≤ l.most + n.stay
      · have k1 : decide ((d : Int) ≤ l.most + n.stay) = true := by simp [c1]
        have w5 : IntKind.i64.wrap ((h : Int) + d) = ((h + d : Nat) : Int) := by rw [wrap_i64 (by omega) (by omega)]; simp
        by_cases c2 : h + d ≤ 300
        · have k2 : decide (((h + d : Nat) : Int) ≤ 300) = true := by simp; omega
          have w6 : IntKind.i64.wrap ((d : Int) + 1) = ((d + 1 : Nat) : Int) := by rw [wrap_i64 (by omega) (by omega)]; simp
          have p1 := ptr_ix 8 301 b3 0 .i8 l.to t e2 t8
          have p2 := ptr_ix 301 1 b3 (0 + t * 301) .i64 ((h + d : Nat) : Int) (h + d) rfl (by omega)
          have rd := gc_rd1 own3 ty3 2408 tot3 a (0 + t * 301 + (h + d) * 1) (by omega)
          simp only [Nat.zero_add, Nat.mul_one] at p1 p2 rd
          have hsu := hitTo_succ l a t h d hd2 (by omega)
          cases ea : a (t * 301 + (h + d)) with
          | true =>
            rw [ea] at rd hsu
            have p3 := ptr_ix 8 301 b5 0 .i8 l.frm f e1 f8
            have p4 := ptr_ix 301 1 b5 (0 + f * 301) .i64 (h : Int) h rfl (by omega)
            have st := gc_st1 80 2408 2408 (gor (gor (backL n a (n.lanes.take i)) (backH l n a h)) (fun j => decide (j = f * 301 + h) && hitTo l a t h d)) (0 + f * 301 + h * 1) true (by omega)
            simp only [Nat.zero_add, Nat.mul_one] at p3 p4 st
            rw [← v5] at st
            simp only [go_sem, ↓reduceIte, Nat.reduceEqDiff, reduceCtorEq, Nat.reduceAdd, Nat.reduceLeDiff, Nat.reduceSub, Nat.reduceMul, Int.reduceEq, Nat.reduceBEq, z0, z1, z5', z7, z8, hT9, v7, v2, v3, w2, w3, w4, w5, k1, k2, p1, p2, rd, p3, p4, st, w6]
            have e : gcells 2408 (gup (gor (gor (backL n a (n.lanes.take i)) (backH l n a h)) (fun j => decide (j = f * 301 + h) && hitTo l a t h d)) (f * 301 + h) true) = gcells 2408 (gor (gor (backL n a (n.lanes.take i)) (backH l n a h)) (fun j => decide (j = f * 301 + h) && hitTo l a t h (d + 1))) := by
              refine gc_ext fun j _ => ?_
              simp only [gup, gor, hsu, Bool.or_true, Bool.and_true]
              split
              · rename_i hj; simp [hj]
              · rename_i hj; simp [hj]
            refine ⟨400 - (d + 1), _, by omega, Hp.sub.refl _, d + 1, .inr (by omega), by omega, rfl, (by (try simp only [go_sem, ↓reduceIte, Nat.reduceEqDiff, reduceCtorEq, Nat.reduceAdd, Nat.reduceLeDiff, Nat.reduceSub, Nat.reduceMul, Int.reduceEq, Nat.reduceBEq]) <;> rfl), ?_⟩
            rw [e]
            exact sub_st hsub3
          | false =>
            rw [ea, Bool.or_false] at hsu
            rw [ea] at rd
            simp only [go_sem, ↓reduceIte, Nat.reduceEqDiff, reduceCtorEq, Nat.reduceAdd, Nat.reduceLeDiff, Nat.reduceSub, Nat.reduceMul, Int.reduceEq, Nat.reduceBEq, z0, z1, z5', z7, z8, hT9, v7, v2, v3, w2, w3, w4, w5, k1, k2, p1, p2, rd, w6]
            refine ⟨400 - (d + 1), _, by omega, Hp.sub.refl _, d + 1, .inr (by omega), by omega, rfl, (by (try simp only [go_sem, ↓reduceIte, Nat.reduceEqDiff, reduceCtorEq, Nat.reduceAdd, Nat.reduceLeDiff, Nat.reduceSub, Nat.reduceMul, Int.reduceEq, Nat.reduceBEq]) <;> rfl), ?_⟩
            rw [hsu]
            exact hsub3
        · have k2 : decide (((h + d : Nat) : Int) ≤ 300) = false := by simp; omega
          simp only [go_sem, ↓reduceIte, Nat.reduceEqDiff, reduceCtorEq, Nat.reduceAdd, Nat.reduceLeDiff, Nat.reduceSub, Nat.reduceMul, Int.reduceEq, Nat.reduceBEq, z0, z1, z5', z7, z8, hT9, v7, v2, v3, w2, w3, w4, w5, k1, k2]
          show lpQ _ _ _ (.exit 4) _ _
          simp only [lpQ]
          simp only [go_sem, ↓reduceIte, Nat.reduceEqDiff, reduceCtorEq, Nat.reduceAdd, Nat.reduceLeDiff, Nat.reduceSub, Nat.reduceMul, Int.reduceEq, Nat.reduceBEq]
          refine ⟨_, Hp.sub.refl _, ?_⟩
          show (H7.set b5 (.row true 80 (gcells 2408 (gor (backL n a (n.lanes.take i)) (backH l n a (h + 1)))) 2408)).sub _
          rw [← fin (by omega)]
          exact hsub3
      · have k1 : decide ((d : Int) ≤ l.most + n.stay) = false := by simp; omega
        simp only [go_sem, ↓reduceIte, Nat.reduceEqDiff, reduceCtorEq, Nat.reduceAdd, Nat.reduceLeDiff, Nat.reduceSub, Nat.reduceMul, Int.reduceEq, Nat.reduceBEq, z0, z1, z5', z7, z8, hT9, v7, v2, v3, w2, w3, w4, k1]
        show lpQ _ _ _ (.exit 4) _ _
        simp only [lpQ]
        simp only [go_sem, ↓reduceIte, Nat.reduceEqDiff, reduceCtorEq, Nat.reduceAdd, Nat.reduceLeDiff, Nat.reduceSub, Nat.reduceMul, Int.reduceEq, Nat.reduceBEq]
        refine ⟨_, Hp.sub.refl _, ?_⟩
        show (H7.set b5 (.row true 80 (gcells 2408 (gor (backL n a (n.lanes.take i)) (backH l n a (h + 1)))) 2408)).sub _
        rw [← fin (by omega)]
        exact hsub3
    · rintro T2 H2 hl2 hoff2 hTh hsub2
      have u6 : T2 6 = .int .i64 i := by rw [hoff2.get rfl]; simp only [go_sem, ↓reduceIte, Nat.reduceEqDiff, reduceCtorEq, Nat.reduceAdd, Nat.reduceLeDiff, Nat.reduceSub, Nat.reduceMul, Int.reduceEq, Nat.reduceBEq, hTi]
      have w7 : IntKind.i64.wrap ((i : Int) + 1) = ((i + 1 : Nat) : Int) := by rw [wrap_i64 (by omega) (by omega)]; simp
      simp only [go_sem, ↓reduceIte, Nat.reduceEqDiff, reduceCtorEq, Nat.reduceAdd, Nat.reduceLeDiff, Nat.reduceSub, Nat.reduceMul, Int.reduceEq, Nat.reduceBEq, u6, w7]
      refine ⟨n.lanes.length - (i + 1), _, hpos, Hp.sub.refl _, i + 1, by omega, rfl, (by (try simp only [go_sem, ↓reduceIte, Nat.reduceEqDiff, reduceCtorEq, Nat.reduceAdd, Nat.reduceLeDiff, Nat.reduceSub, Nat.reduceMul, Int.reduceEq, Nat.reduceBEq]) <;> rfl), ?_⟩
      have e : gcells 2408 (gor (backL n a (n.lanes.take i)) (backH l n a 301)) = gcells 2408 (backL n a (n.lanes.take (i + 1))) := by
        rw [hlt]
        refine gc_ext fun j _ => ?_
        simp only [gor, backL, List.any_append, List.any_cons, List.any_nil, Bool.or_false]
      rw [← e]
      exact Hp.sub.trans (Hp.sub.trans (sub_st hsub) (sub_set2 hs7)) hsub2
  · have hd : decide ((i : Int) < (n.lanes.length : Int)) = false := by simp; omega
    have hii : n.lanes.take i = n.lanes := List.take_of_length_le (by omega)
    rw [hii] at hsub
    simp only [go_sem, ↓reduceIte, Nat.reduceEqDiff, reduceCtorEq, Nat.reduceAdd, Nat.reduceLeDiff, Nat.reduceSub, Nat.reduceMul, Int.reduceEq, Nat.reduceBEq, t0, hTi, r2, hlen, hd]
    show lpQ _ _ _ (.exit 0) _ _
    simp only [lpQ]
    simp only [go_sem, ↓reduceIte, Nat.reduceEqDiff, reduceCtorEq, Nat.reduceAdd, Nat.reduceLeDiff, Nat.reduceSub, Nat.reduceMul, Int.reduceEq, Nat.reduceBEq, t5]
    refine retQ_r1 (by (try simp only [go_sem, ↓reduceIte, Nat.reduceEqDiff, reduceCtorEq, Nat.reduceAdd, Nat.reduceLeDiff, Nat.reduceSub, Nat.reduceMul, Int.reduceEq, Nat.reduceBEq]) <;> rfl) _ ?_ (hK b5 z5)
    exact Hp.sub.trans (sub_set2 hsubL) hsub
end Go.Proofs.Ytonmmfjagkgifaa
