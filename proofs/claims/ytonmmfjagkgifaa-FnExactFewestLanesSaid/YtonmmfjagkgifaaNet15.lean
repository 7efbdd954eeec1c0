/- Nets: the reference's arrivals, hour by hour. -/
import Derived.Test.YtonmmfjagkgifaaBeh
set_option linter.unusedVariables false
set_option linter.unusedSimpArgs false
namespace Go.Proofs.Ytonmmfjagkgifaa
open Go.RowKit
attribute [local go_sem] aw_mv aw_mkf aw_pick aw_bin aw_eqB aw_eqNil aw_eqAgg aw_un aw_conv aw_fa aw_ia aw_iaArr aw_ixArr aw_ixStr aw_fld aw_ext aw_bld aw_nilc aw_slc aw_slcArr aw_slcStr aw_len aw_cap aw_mnx aw_ld aw_st aw_guard_y aw_guard_n aw_nil aw_exit aw_ret aw_cond_t aw_cond_f aw_blk seqQ_norm seqQ_exit seqQ_ret blkQ_norm blkQ_exit_same blkQ_exit_ne blkQ_ret vPick_b vEqB_t vEqB_f vEqNil_sn vEqNil_ss vEqNil_pn vEqNil_ps vUn_neg vUn_not vUn_xor vConv_i vFa_p vIa_s vFld_a vExt_t vNilc_p vLen_s vLen_t vMnx_t vMnx_f abin_add abin_sub abin_mul abin_eql abin_neq abin_lss abin_leq abin_gtr abin_geq abin_and abin_or abin_xor abin_quo abin_rem abin_shl abin_shr abin_seq abin_sne abin_scat ev_tmp ev_const ev_func put_get puto_some puto_none args0_get List.getD_cons_succ List.getD_cons_zero Option.isSome_some Option.getD_some Option.isNone_none Option.isNone_some Option.map_some Option.map_none Value.bool.injEq Value.int.injEq add_mk aload_ptr rd_mk rdObj_row set_get astore_ptr apart_f apart_t List.length_cons List.length_nil List.drop_succ_cons List.drop_zero List.take_succ_cons List.take_zero List.map_cons List.map_nil Option.bind_some Option.bind_none ares_nil ares_tmp oneOf1 Nat.zero_add Nat.add_zero Bool.not_true Bool.not_false ne_eq not_false_eq_true not_true_eq_false decide_true decide_false Bool.true_and Bool.and_true Bool.false_eq_true and_self and_true true_and List.getElem?_cons_zero List.getElem?_cons_succ vc_agg vc_int vc_bool vc_slice aw_chk1 aw_chk2 st_agg st_int st_slice st_ptr one_int one_bool one_slice one_ptr one_str splice_eq aparts_nil aparts_cons afill_nil afill_cons rz0 rz1 rz2 List.all_cons List.all_nil Bool.and_self List.nil_append List.cons_append List.append_nil set_set

theorem spec_l07Behind (n : NetD) (s : Value) (hv : validNet n = true) (a0 : Int × Int) (st hr : Nat) (e1 : a0.1 = st) (e2 : a0.2 = hr) (h8 : st < 8) (h3 : hr ≤ 300) {H : Hp} (hs : Sl H 4 s (n.lanes.map encLane)) {b2 ty2 tot2 : Nat} {own2 : Bool} (hb2 : H b2 = some (.row own2 ty2 (encNet n s) tot2)) (K : Value → Hp → Prop)
    (hK : ∀ g : Nat → Bool, (∀ j, g j = true ↔ Reach n (st * 301 + hr) j) → ∀ b, H b = none → K (.pointer (some ⟨b, 0, none⟩)) (H.set b (.row true 80 (gcells 2408 g) 2408))) :
    ACalls Go.Proofs.Try.prog n_spec_l07Behind #[.pointer (some ⟨b2, 0, none⟩), .agg (encScan a0).toArray, .int .i64 (-1)] H K := by
  refine acalls_go fn_spec_l07Behind rfl fun hl => ?_
  simp only [c_spec_l07Behind, gc_zero, encScan]
  have hb20 := hb2
  rw [netRow] at hb2
  have hlen := hs.len
  have hle := hs.le
  rw [List.length_map] at hlen hle
  refine aw_boxv (by (try simp only [go_sem, ↓reduceIte, Nat.reduceEqDiff, reduceCtorEq, Nat.reduceAdd, Nat.reduceLeDiff, Nat.reduceSub, Nat.reduceMul, Int.reduceEq, Nat.reduceBEq]) <;> rfl) fun b4 hb4 => ?_
  simp only [go_sem, ↓reduceIte, Nat.reduceEqDiff, reduceCtorEq, Nat.reduceAdd, Nat.reduceLeDiff, Nat.reduceSub, Nat.reduceMul, Int.reduceEq, Nat.reduceBEq, gc_rdall, gc_apart, gc_stall, gc_len, vBld_nil]
  refine aw_boxv (by (try simp only [go_sem, ↓reduceIte, Nat.reduceEqDiff, reduceCtorEq, Nat.reduceAdd, Nat.reduceLeDiff, Nat.reduceSub, Nat.reduceMul, Int.reduceEq, Nat.reduceBEq]) <;> rfl) fun b7 hb7 => ?_
  rw [gc_vc, gc_len] at *
  have x4 := ne_set hb7
  have x6 := some_ne hb2 (none_set hb7)
  have x6' := some_ne hb2 hb4
  have z7 : H b7 = none := none_set hb7
  have wh : IntKind.i64.wrap a0.2 = a0.2 := wrap_i64 (by omega) (by omega)
  simp only [go_sem, ↓reduceIte, Nat.reduceEqDiff, reduceCtorEq, Nat.reduceAdd, Nat.reduceLeDiff, Nat.reduceSub, Nat.reduceMul, Int.reduceEq, Nat.reduceBEq, x4, x4.symm, wh]
  have hsubL : H.sub ((H.set b4 (.row true 37 [.int .i8 a0.1, .int .i16 a0.2] 2)).set b7 (.row true 80 (gcells 2408 fun x => false) 2408)) := sub_set hb7 (sub_set hb4 (Hp.sub.refl _))
  have g2 : ((H.set b4 (.row true 37 [.int .i8 a0.1, .int .i16 a0.2] 2)).set b7 (.row true 80 (gcells 2408 fun x => false) 2408)) b2 = some (.row own2 ty2 (encNet n s) tot2) := by rw [set_ne x6, set_ne x6']; exact hb20
  have g4 : ((H.set b4 (.row true 37 [.int .i8 a0.1, .int .i16 a0.2] 2)).set b7 (.row true 80 (gcells 2408 fun x => false) 2408)) b4 = some (.row true 37 [.int .i8 a0.1, .int .i16 a0.2] 2) := by rw [set_ne x4, set_same]
  have g7 : ((H.set b4 (.row true 37 [.int .i8 a0.1, .int .i16 a0.2] 2)).set b7 (.row true 80 (gcells 2408 fun x => false) 2408)) b7 = some (.row true 80 (gcells 2408 fun x => false) 2408) := set_same _ _ _
  have hlL : Live ((H.set b4 (.row true 37 [.int .i8 a0.1, .int .i16 a0.2] 2)).set b7 (.row true 80 (gcells 2408 fun x => false) 2408)) := Live.set (Live.set hl _ _ _ _ (by simp)) _ _ _ _ (by rw [gc_len]; exact Nat.le_refl 2408)
  generalize ((H.set b4 (.row true 37 [.int .i8 a0.1, .int .i16 a0.2] 2)).set b7 (.row true 80 (gcells 2408 fun x => false) 2408)) = HL at *
  have hi0 : (st * 301 + hr) % 301 = hr := by omega
  refine aw_forN hlL 301 (by omega) hr (by omega) (fun h T' H' => ∃ out, Beh n (st * 301 + hr) h [] out ∧ (HL.set b7 (.row true 80 (gcells 2408 out) 2408)).sub H') HL (Hp.sub.refl _) (by simp only [put_get, e2]; rfl) ⟨fun _ => false, ?_, ?_⟩ (fun h T' hh hoff' => ?_) rfl (by decide) (by decide) ?_ ?_
  · have := Beh.start n (st * 301 + hr)
    rw [hi0] at this
    exact this
  · exact sub_set_at (Hp.sub.refl _) g7
  · rw [ev_const, abin_leq]
    exact congrArg (fun z => some (Value.bool z)) (decide_eq_decide.2 (by omega))
  · rintro h T1 H1 hh hl1 hoff1 hTh ⟨out1, hbeh1, hsub1⟩
    have i0 : T1 0 = .pointer (some ⟨b2, 0, none⟩) := by rw [hoff1.get rfl]; simp only [go_sem, ↓reduceIte, Nat.reduceEqDiff, reduceCtorEq, Nat.reduceAdd, Nat.reduceLeDiff, Nat.reduceSub, Nat.reduceMul, Int.reduceEq, Nat.reduceBEq]
    have i2 : T1 2 = .int .i64 (-1) := by rw [hoff1.get rfl]; simp only [go_sem, ↓reduceIte, Nat.reduceEqDiff, reduceCtorEq, Nat.reduceAdd, Nat.reduceLeDiff, Nat.reduceSub, Nat.reduceMul, Int.reduceEq, Nat.reduceBEq]
    have i4 : T1 4 = .pointer (some ⟨b4, 0, none⟩) := by rw [hoff1.get rfl]; simp only [go_sem, ↓reduceIte, Nat.reduceEqDiff, reduceCtorEq, Nat.reduceAdd, Nat.reduceLeDiff, Nat.reduceSub, Nat.reduceMul, Int.reduceEq, Nat.reduceBEq]
    have i7 : T1 7 = .pointer (some ⟨b7, 0, none⟩) := by rw [hoff1.get rfl]; simp only [go_sem, ↓reduceIte, Nat.reduceEqDiff, reduceCtorEq, Nat.reduceAdd, Nat.reduceLeDiff, Nat.reduceSub, Nat.reduceMul, Int.reduceEq, Nat.reduceBEq]
    simp only [go_sem, ↓reduceIte, Nat.reduceEqDiff, reduceCtorEq, Nat.reduceAdd, Nat.reduceLeDiff, Nat.reduceSub, Nat.reduceMul, Int.reduceEq, Nat.reduceBEq]
    refine aw_loopM hl1 (fun m T' H' => ∃ i : Nat, i ≤ n.lanes.length ∧ m = n.lanes.length - i ∧ T' 9 = .int .i64 i ∧ ∃ out, Beh n (st * 301 + hr) h (n.lanes.take i) out ∧ (HL.set b7 (.row true 80 (gcells 2408 out) 2408)).sub H') n.lanes.length H1 (Hp.sub.refl _) ⟨0, by omega, rfl, (by (try simp only [go_sem, ↓reduceIte, Nat.reduceEqDiff, reduceCtorEq, Nat.reduceAdd, Nat.reduceLeDiff, Nat.reduceSub, Nat.reduceMul, Int.reduceEq, Nat.reduceBEq]) <;> rfl), out1, hbeh1, hsub1⟩ ?_
    rintro m T' H' hl' hoff ⟨i, hile, rfl, u9, out, hbeh, hsub⟩
    have t0 : T' 0 = .pointer (some ⟨b2, 0, none⟩) := by rw [hoff.get rfl]; simp only [go_sem, ↓reduceIte, Nat.reduceEqDiff, reduceCtorEq, Nat.reduceAdd, Nat.reduceLeDiff, Nat.reduceSub, Nat.reduceMul, Int.reduceEq, Nat.reduceBEq, i0]
    have t2 : T' 2 = .int .i64 (-1) := by rw [hoff.get rfl]; simp only [go_sem, ↓reduceIte, Nat.reduceEqDiff, reduceCtorEq, Nat.reduceAdd, Nat.reduceLeDiff, Nat.reduceSub, Nat.reduceMul, Int.reduceEq, Nat.reduceBEq, i2]
    have t4 : T' 4 = .pointer (some ⟨b4, 0, none⟩) := by rw [hoff.get rfl]; simp only [go_sem, ↓reduceIte, Nat.reduceEqDiff, reduceCtorEq, Nat.reduceAdd, Nat.reduceLeDiff, Nat.reduceSub, Nat.reduceMul, Int.reduceEq, Nat.reduceBEq, i4]
    have u7 : T' 7 = .pointer (some ⟨b7, 0, none⟩) := by rw [hoff.get rfl]; simp only [go_sem, ↓reduceIte, Nat.reduceEqDiff, reduceCtorEq, Nat.reduceAdd, Nat.reduceLeDiff, Nat.reduceSub, Nat.reduceMul, Int.reduceEq, Nat.reduceBEq, i7]
    have u8 : T' 8 = .int .i64 h := by rw [hoff.get rfl]; simp only [go_sem, ↓reduceIte, Nat.reduceEqDiff, reduceCtorEq, Nat.reduceAdd, Nat.reduceLeDiff, Nat.reduceSub, Nat.reduceMul, Int.reduceEq, Nat.reduceBEq, hTh]
    have r2 : H' b2 = _ := sub_get hsub g2 x6
    have r4 : H' b4 = _ := sub_get hsub g4 x4
    have r7 : H' b7 = _ := sub_at hsub
    have r2' := r2
    rw [netRow] at r2'
    by_cases hi : i < n.lanes.length
    · have hd : decide ((i : Int) < (n.lanes.length : Int)) = true := by simp [hi]
      have hsH : H.sub (HL.set b7 (.row true 80 (gcells 2408 out) 2408)) := sub_set0 z7 hsubL
      obtain ⟨bb, off, hia, hrd⟩ := (hs.sub (hsH.trans hsub)).at (k := .i64) (i := (i : Int)) (by omega) (by simp; omega)
      have hrow : (n.lanes.map encLane).getD (i : Int).toNat [] = encLane n.lanes[i] := by simp [List.getD_eq_getElem?_getD, hi]
      rw [hrow, laneRow] at hrd
      have hmem : n.lanes[i] ∈ n.lanes := by simp
      obtain ⟨f, t, hlv⟩ := laneV_of hv hmem
      have hlt : n.lanes.take (i + 1) = n.lanes.take i ++ [n.lanes[i]] := List.take_succ_eq_append_getElem hi
      have hpos : n.lanes.length - (i + 1) < n.lanes.length - i := by omega
      generalize n.lanes[i] = l at *
      have hlv0 := hlv
      obtain ⟨q1, q2, f8, t8, l1, lm, m40, s0, s40⟩ := hlv
      have et : l.to.toNat = t := by omega
      have hsrc : src l h = f * 301 + h := by unfold src; omega
      have w1 : IntKind.i64.wrap l.to = l.to := wrap_i64 (by omega) (by omega)
      have w2 : IntKind.i64.wrap l.frm = l.frm := wrap_i64 (by omega) (by omega)
      have w7 : IntKind.i64.wrap ((i : Int) + 1) = ((i + 1 : Nat) : Int) := by rw [wrap_i64 (by omega) (by omega)]; simp
      have m1 : decide (l.frm = -1) = false := by simp; omega
      have m2 : decide (l.to = -1) = false := by simp; omega
      simp only [go_sem, ↓reduceIte, Nat.reduceEqDiff, reduceCtorEq, Nat.reduceAdd, Nat.reduceLeDiff, Nat.reduceSub, Nat.reduceMul, Int.reduceEq, Nat.reduceBEq, t0, u9, r2', hlen, hd, hia, hrd]
      refine aw_alloc fun b10 hb10 => ?_
      have y2 := some_ne r2 hb10
      have y4 := some_ne r4 hb10
      have y7 := some_ne r7 hb10
      have p1 := ptr_ix 8 301 b7 0 .i8 l.frm f q1 f8
      have p2 := ptr_ix 301 1 b7 (0 + f * 301) .i64 (h : Int) h rfl (by omega)
      have rd := gc_rd1 true 80 2408 2408 out (0 + f * 301 + h * 1) (by omega)
      simp only [Nat.zero_add, Nat.mul_one] at p1 p2 rd
      cases k1 : decide ((h : Int) = a0.2) with
      | true =>
        have k1' : (h : Int) = a0.2 := by simpa using k1
        cases k2 : decide (l.frm = a0.1) with
        | true =>
          have k2' : l.frm = a0.1 := by simpa using k2
          simp only [go_sem, ↓reduceIte, Nat.reduceEqDiff, reduceCtorEq, Nat.reduceAdd, Nat.reduceLeDiff, Nat.reduceSub, Nat.reduceMul, Int.reduceEq, Nat.reduceBEq, t0, t2, t4, u7, u8, r4, r7, y4, y7, wh, k1, k2, w1, w2, m1, m2]
          refine aw_call (by (try simp only [go_sem, ↓reduceIte, Nat.reduceEqDiff, reduceCtorEq, Nat.reduceAdd, Nat.reduceLeDiff, Nat.reduceSub, Nat.reduceMul, Int.reduceEq, Nat.reduceBEq]) <;> rfl) (by (try simp only [go_sem, ↓reduceIte, Nat.reduceEqDiff, reduceCtorEq, Nat.reduceAdd, Nat.reduceLeDiff, Nat.reduceSub, Nat.reduceMul, Int.reduceEq, Nat.reduceBEq]) <;> rfl) (spec_l07Along n s l hlv0 h (by omega) (by rw [set_ne y2]; exact r2) x6 out (by rw [set_ne y7]; exact r7) _ ?_)
          simp only [go_sem, ↓reduceIte, Nat.reduceEqDiff, reduceCtorEq, Nat.reduceAdd, Nat.reduceLeDiff, Nat.reduceSub, Nat.reduceMul, Int.reduceEq, Nat.reduceBEq, u9, w7]
          refine ⟨n.lanes.length - (i + 1), _, hpos, Hp.sub.refl _, i + 1, by omega, rfl, (by (try simp only [go_sem, ↓reduceIte, Nat.reduceEqDiff, reduceCtorEq, Nat.reduceAdd, Nat.reduceLeDiff, Nat.reduceSub, Nat.reduceMul, Int.reduceEq, Nat.reduceBEq]) <;> rfl), gor out (arr l n h), ?_, ?_⟩
          · rw [hlt]; exact hbeh.hit hv hmem (by omega) (.inr (by rw [hsrc]; omega))
          · unfold arr
            rw [et]
            exact Hp.sub.trans (sub_st hsub) (sub_set2 (sub_set hb10 (Hp.sub.refl _)))
        | false =>
          have k2' : ¬ l.frm = a0.1 := by simpa using k2
          cases ea : out (f * 301 + h) with
          | true =>
            rw [ea] at rd
            simp only [go_sem, ↓reduceIte, Nat.reduceEqDiff, reduceCtorEq, Nat.reduceAdd, Nat.reduceLeDiff, Nat.reduceSub, Nat.reduceMul, Int.reduceEq, Nat.reduceBEq, t0, t2, t4, u7, u8, r4, r7, y4, y7, wh, k1, k2, w1, w2, m1, m2, p1, p2, rd]
            refine aw_call (by (try simp only [go_sem, ↓reduceIte, Nat.reduceEqDiff, reduceCtorEq, Nat.reduceAdd, Nat.reduceLeDiff, Nat.reduceSub, Nat.reduceMul, Int.reduceEq, Nat.reduceBEq]) <;> rfl) (by (try simp only [go_sem, ↓reduceIte, Nat.reduceEqDiff, reduceCtorEq, Nat.reduceAdd, Nat.reduceLeDiff, Nat.reduceSub, Nat.reduceMul, Int.reduceEq, Nat.reduceBEq]) <;> rfl) (spec_l07Along n s l hlv0 h (by omega) (by rw [set_ne y2]; exact r2) x6 out (by rw [set_ne y7]; exact r7) _ ?_)
            simp only [go_sem, ↓reduceIte, Nat.reduceEqDiff, reduceCtorEq, Nat.reduceAdd, Nat.reduceLeDiff, Nat.reduceSub, Nat.reduceMul, Int.reduceEq, Nat.reduceBEq, u9, w7]
            refine ⟨n.lanes.length - (i + 1), _, hpos, Hp.sub.refl _, i + 1, by omega, rfl, (by (try simp only [go_sem, ↓reduceIte, Nat.reduceEqDiff, reduceCtorEq, Nat.reduceAdd, Nat.reduceLeDiff, Nat.reduceSub, Nat.reduceMul, Int.reduceEq, Nat.reduceBEq]) <;> rfl), gor out (arr l n h), ?_, ?_⟩
            · rw [hlt]; exact hbeh.hit hv hmem (by omega) (.inl (by rw [hsrc]; exact ea))
            · unfold arr
              rw [et]
              exact Hp.sub.trans (sub_st hsub) (sub_set2 (sub_set hb10 (Hp.sub.refl _)))
          | false =>
            rw [ea] at rd
            simp only [go_sem, ↓reduceIte, Nat.reduceEqDiff, reduceCtorEq, Nat.reduceAdd, Nat.reduceLeDiff, Nat.reduceSub, Nat.reduceMul, Int.reduceEq, Nat.reduceBEq, t0, t2, t4, u7, u8, r4, r7, y4, y7, wh, k1, k2, w1, w2, m1, m2, p1, p2, rd, u9, w7]
            refine ⟨n.lanes.length - (i + 1), _, hpos, Hp.sub.refl _, i + 1, by omega, rfl, (by (try simp only [go_sem, ↓reduceIte, Nat.reduceEqDiff, reduceCtorEq, Nat.reduceAdd, Nat.reduceLeDiff, Nat.reduceSub, Nat.reduceMul, Int.reduceEq, Nat.reduceBEq]) <;> rfl), out, ?_, hsub.trans (sub_set hb10 (Hp.sub.refl _))⟩
            rw [hlt]
            refine hbeh.miss ?_
            rintro (hc | hc)
            · rw [hsrc, ea] at hc; cases hc
            · rw [hsrc] at hc; omega
      | false =>
        have k1' : ¬ (h : Int) = a0.2 := by simpa using k1
        cases ea : out (f * 301 + h) with
        | true =>
          rw [ea] at rd
          simp only [go_sem, ↓reduceIte, Nat.reduceEqDiff, reduceCtorEq, Nat.reduceAdd, Nat.reduceLeDiff, Nat.reduceSub, Nat.reduceMul, Int.reduceEq, Nat.reduceBEq, t0, t2, t4, u7, u8, r4, r7, y4, y7, wh, k1, w1, w2, m1, m2, p1, p2, rd]
          refine aw_call (by (try simp only [go_sem, ↓reduceIte, Nat.reduceEqDiff, reduceCtorEq, Nat.reduceAdd, Nat.reduceLeDiff, Nat.reduceSub, Nat.reduceMul, Int.reduceEq, Nat.reduceBEq]) <;> rfl) (by (try simp only [go_sem, ↓reduceIte, Nat.reduceEqDiff, reduceCtorEq, Nat.reduceAdd, Nat.reduceLeDiff, Nat.reduceSub, Nat.reduceMul, Int.reduceEq, Nat.reduceBEq]) <;> rfl) (spec_l07Along n s l hlv0 h (by omega) (by rw [set_ne y2]; exact r2) x6 out (by rw [set_ne y7]; exact r7) _ ?_)
          simp only [go_sem, ↓reduceIte, Nat.reduceEqDiff, reduceCtorEq, Nat.reduceAdd, Nat.reduceLeDiff, Nat.reduceSub, Nat.reduceMul, Int.reduceEq, Nat.reduceBEq, u9, w7]
          refine ⟨n.lanes.length - (i + 1), _, hpos, Hp.sub.refl _, i + 1, by omega, rfl, (by (try simp only [go_sem, ↓reduceIte, Nat.reduceEqDiff, reduceCtorEq, Nat.reduceAdd, Nat.reduceLeDiff, Nat.reduceSub, Nat.reduceMul, Int.reduceEq, Nat.reduceBEq]) <;> rfl), gor out (arr l n h), ?_, ?_⟩
          · rw [hlt]; exact hbeh.hit hv hmem (by omega) (.inl (by rw [hsrc]; exact ea))
          · unfold arr
            rw [et]
            exact Hp.sub.trans (sub_st hsub) (sub_set2 (sub_set hb10 (Hp.sub.refl _)))
        | false =>
          rw [ea] at rd
          simp only [go_sem, ↓reduceIte, Nat.reduceEqDiff, reduceCtorEq, Nat.reduceAdd, Nat.reduceLeDiff, Nat.reduceSub, Nat.reduceMul, Int.reduceEq, Nat.reduceBEq, t0, t2, t4, u7, u8, r4, r7, y4, y7, wh, k1, w1, w2, m1, m2, p1, p2, rd, u9, w7]
          refine ⟨n.lanes.length - (i + 1), _, hpos, Hp.sub.refl _, i + 1, by omega, rfl, (by (try simp only [go_sem, ↓reduceIte, Nat.reduceEqDiff, reduceCtorEq, Nat.reduceAdd, Nat.reduceLeDiff, Nat.reduceSub, Nat.reduceMul, Int.reduceEq, Nat.reduceBEq]) <;> rfl), out, ?_, hsub.trans (sub_set hb10 (Hp.sub.refl _))⟩
          rw [hlt]
          refine hbeh.miss ?_
          rintro (hc | hc)
          · rw [hsrc, ea] at hc; cases hc
          · rw [hsrc] at hc; omega
    · have hd : decide ((i : Int) < (n.lanes.length : Int)) = false := by simp; omega
      have hii : n.lanes.take i = n.lanes := List.take_of_length_le (by omega)
      rw [hii] at hbeh
      simp only [go_sem, ↓reduceIte, Nat.reduceEqDiff, reduceCtorEq, Nat.reduceAdd, Nat.reduceLeDiff, Nat.reduceSub, Nat.reduceMul, Int.reduceEq, Nat.reduceBEq, t0, u9, r2', hlen, hd]
      show lpQ _ _ _ (.exit 2) _ _
      simp only [lpQ]
      simp only [go_sem, ↓reduceIte, Nat.reduceEqDiff, reduceCtorEq, Nat.reduceAdd, Nat.reduceLeDiff, Nat.reduceSub, Nat.reduceMul, Int.reduceEq, Nat.reduceBEq]
      exact ⟨H', Hp.sub.refl _, out, hbeh.next, hsub⟩
  · rintro T' H' hl' hoff hTh ⟨out, hbeh, hsub⟩
    have t7 : T' 7 = .pointer (some ⟨b7, 0, none⟩) := by rw [hoff.get rfl]; simp only [go_sem, ↓reduceIte, Nat.reduceEqDiff, reduceCtorEq, Nat.reduceAdd, Nat.reduceLeDiff, Nat.reduceSub, Nat.reduceMul, Int.reduceEq, Nat.reduceBEq]
    simp only [go_sem, ↓reduceIte, Nat.reduceEqDiff, reduceCtorEq, Nat.reduceAdd, Nat.reduceLeDiff, Nat.reduceSub, Nat.reduceMul, Int.reduceEq, Nat.reduceBEq, t7]
    refine retQ_r1 (by (try simp only [go_sem, ↓reduceIte, Nat.reduceEqDiff, reduceCtorEq, Nat.reduceAdd, Nat.reduceLeDiff, Nat.reduceSub, Nat.reduceMul, Int.reduceEq, Nat.reduceBEq]) <;> rfl) _ ?_ (hK out hbeh.end b7 z7)
    exact Hp.sub.trans (sub_set2 hsubL) hsub
end Go.Proofs.Ytonmmfjagkgifaa
