/- Nets: the program's way with the fewest lanes. -/
import Derived.Test.YtonmmfjagkgifaaFwd2
set_option linter.unusedVariables false
set_option linter.unusedSimpArgs false
namespace Go.Proofs.Ytonmmfjagkgifaa
open Go.RowKit
attribute [local go_sem] aw_mv aw_mkf aw_pick aw_bin aw_eqB aw_eqNil aw_eqAgg aw_un aw_conv aw_fa aw_ia aw_iaArr aw_ixArr aw_ixStr aw_fld aw_ext aw_bld aw_nilc aw_slc aw_slcArr aw_slcStr aw_len aw_cap aw_mnx aw_ld aw_st aw_guard_y aw_guard_n aw_nil aw_exit aw_ret aw_cond_t aw_cond_f aw_blk seqQ_norm seqQ_exit seqQ_ret blkQ_norm blkQ_exit_same blkQ_exit_ne blkQ_ret vPick_b vEqB_t vEqB_f vEqNil_sn vEqNil_ss vEqNil_pn vEqNil_ps vUn_neg vUn_not vUn_xor vConv_i vFa_p vIa_s vFld_a vExt_t vNilc_p vLen_s vLen_t vMnx_t vMnx_f abin_add abin_sub abin_mul abin_eql abin_neq abin_lss abin_leq abin_gtr abin_geq abin_and abin_or abin_xor abin_quo abin_rem abin_shl abin_shr abin_seq abin_sne abin_scat ev_tmp ev_const ev_func put_get puto_some puto_none args0_get List.getD_cons_succ List.getD_cons_zero Option.isSome_some Option.getD_some Option.isNone_none Option.isNone_some Option.map_some Option.map_none Value.bool.injEq Value.int.injEq add_mk aload_ptr rd_mk rdObj_row set_get astore_ptr apart_f apart_t List.length_cons List.length_nil List.drop_succ_cons List.drop_zero List.take_succ_cons List.take_zero List.map_cons List.map_nil Option.bind_some Option.bind_none ares_nil ares_tmp oneOf1 Nat.zero_add Nat.add_zero Bool.not_true Bool.not_false ne_eq not_false_eq_true not_true_eq_false decide_true decide_false Bool.true_and Bool.and_true Bool.false_eq_true and_self and_true true_and List.getElem?_cons_zero List.getElem?_cons_succ vc_agg vc_int vc_bool vc_slice aw_chk1 aw_chk2 st_agg st_int st_slice st_ptr one_int one_bool one_slice one_ptr one_str splice_eq aparts_nil aparts_cons afill_nil afill_cons rz0 rz1 rz2 List.all_cons List.all_nil Bool.and_self List.nil_append List.cons_append List.append_nil set_set lpQ_exit lpQ_ret

def encN (x : Nat) : List Value := encI (x : Int)
theorem encScan_eq (a : Int × Int) : encScan a = [.int .i8 a.1, .int .i16 a.2] := rfl
theorem spec_impl_FewestLanes (n : NetD) (s : Value) (a b : Int × Int) (hn : n.ok) (ha : okScan a) (hb : okScan b) {H : Hp} (hs : Sl H 4 s (n.lanes.map encLane)) (K : Value → Hp → Prop)
    (hK : ∀ out code kb ty v H', FewRes n a b out code → Live H' → Loc H H' [.own kb ty 1 v (out.map encN)] → K (.tuple #[v, .int .i64 code]) H') :
    ACalls Go.Proofs.Try.prog n_impl_FewestLanes #[.agg (encNet n s).toArray, .agg (encScan a).toArray, .agg (encScan b).toArray] H K := by
  refine acalls_go fn_impl_FewestLanes rfl fun hl => ?_
  simp only [c_impl_FewestLanes, gc_zero]
  have hL := Loc.nil H
  refine awL_box (encNet n s) hl hL (by (try simp only [go_sem, ↓reduceIte, Nat.reduceEqDiff, reduceCtorEq, Nat.reduceAdd, Nat.reduceLeDiff, Nat.reduceSub, Nat.reduceMul, Int.reduceEq, Nat.reduceBEq]) <;> rfl) fun bn H1 hl1 hL1 => ?_
  refine awL_box (encScan a) hl1 hL1 (by (try simp only [go_sem, ↓reduceIte, Nat.reduceEqDiff, reduceCtorEq, Nat.reduceAdd, Nat.reduceLeDiff, Nat.reduceSub, Nat.reduceMul, Int.reduceEq, Nat.reduceBEq]) <;> rfl) fun ba H2 hl2 hL2 => ?_
  refine awL_box (encScan b) hl2 hL2 (by (try simp only [go_sem, ↓reduceIte, Nat.reduceEqDiff, reduceCtorEq, Nat.reduceAdd, Nat.reduceLeDiff, Nat.reduceSub, Nat.reduceMul, Int.reduceEq, Nat.reduceBEq]) <;> rfl) fun bb H3 hl3 hL3 => ?_
  clear hL1 hL2 hl1 hl2
  have hbb := hL3.box 0 rfl
  have hba := hL3.box 1 rfl
  have hbn := hL3.box 2 rfl
  rw [encScan_eq] at hba hbb
  rw [netRow] at hbn
  (try simp only [go_sem, ↓reduceIte, Nat.reduceEqDiff, reduceCtorEq, Nat.reduceAdd, Nat.reduceLeDiff, Nat.reduceSub, Nat.reduceMul, Int.reduceEq, Nat.reduceBEq, hba, hbb, hbn])
  refine awL_bsl 2 [encScan a, encScan b] hl3 hL3 (by (try simp only [go_sem, ↓reduceIte, Nat.reduceEqDiff, reduceCtorEq, Nat.reduceAdd, Nat.reduceLeDiff, Nat.reduceSub, Nat.reduceMul, Int.reduceEq, Nat.reduceBEq]) <;> rfl) rfl (by intro r hr; simp at hr; rcases hr with rfl | rfl <;> rfl) rfl fun b4 v4 H4 hl4 hL4 => ?_
  (try simp only [go_sem, ↓reduceIte, Nat.reduceEqDiff, reduceCtorEq, Nat.reduceAdd, Nat.reduceLeDiff, Nat.reduceSub, Nat.reduceMul, Int.reduceEq, Nat.reduceBEq])
  refine aw_call (by (try simp only [go_sem, ↓reduceIte, Nat.reduceEqDiff, reduceCtorEq, Nat.reduceAdd, Nat.reduceLeDiff, Nat.reduceSub, Nat.reduceMul, Int.reduceEq, Nat.reduceBEq]) <;> rfl) (by (try simp only [go_sem, ↓reduceIte, Nat.reduceEqDiff, reduceCtorEq, Nat.reduceAdd, Nat.reduceLeDiff, Nat.reduceSub, Nat.reduceMul, Int.reduceEq, Nat.reduceBEq]) <;> rfl) (spec_scanCode n s hn (hs.sub hL4.sub) (scs := [a, b]) (by intro x hx; simp at hx; rcases hx with rfl | rfl <;> assumption) (by simp) (hL4.sl 0 rfl (by simp) (by simp)) _ ?_)
  by_cases hc : scanCode2 n a b = 0
  · rw [show netCode n ([a, b].map (·.1)) ([a, b].map (·.2)) = 0 from hc]
    obtain ⟨hv, ⟨a1, a2, a3, a4⟩, ⟨c1, c2, c3, c4⟩, h8⟩ := code2_ok hc
    have hba := hL4.box 2 rfl
    have hbb := hL4.box 1 rfl
    have hbn := hL4.box 3 rfl
    rw [encScan_eq] at hba hbb
    rw [netRow] at hbn
    (try simp only [go_sem, ↓reduceIte, Nat.reduceEqDiff, reduceCtorEq, Nat.reduceAdd, Nat.reduceLeDiff, Nat.reduceSub, Nat.reduceMul, Int.reduceEq, Nat.reduceBEq, hba, hbb, hbn])
    refine aw_call (by (try simp only [go_sem, ↓reduceIte, Nat.reduceEqDiff, reduceCtorEq, Nat.reduceAdd, Nat.reduceLeDiff, Nat.reduceSub, Nat.reduceMul, Int.reduceEq, Nat.reduceBEq]) <;> rfl) (by (try simp only [go_sem, ↓reduceIte, Nat.reduceEqDiff, reduceCtorEq, Nat.reduceAdd, Nat.reduceLeDiff, Nat.reduceSub, Nat.reduceMul, Int.reduceEq, Nat.reduceBEq]) <;> rfl) (spec_canGo n s hv a b a.1.toNat a.2.toNat b.1.toNat b.2.toNat (by omega) (by omega) (by omega) (by omega) (by omega) (by omega) (by omega) (by omega) (hs.sub hL4.sub) _ fun r hr => ?_)
    cases r with
    | false =>
      have hno : ¬ Reach n (place a) (place b) := fun h => by have := hr.2 h; cases this
      (try simp only [go_sem, ↓reduceIte, Nat.reduceEqDiff, reduceCtorEq, Nat.reduceAdd, Nat.reduceLeDiff, Nat.reduceSub, Nat.reduceMul, Int.reduceEq, Nat.reduceBEq])
      exact retQ_r2 (by (try simp only [go_sem, ↓reduceIte, Nat.reduceEqDiff, reduceCtorEq, Nat.reduceAdd, Nat.reduceLeDiff, Nat.reduceSub, Nat.reduceMul, Int.reduceEq, Nat.reduceBEq]) <;> rfl) (by (try simp only [go_sem, ↓reduceIte, Nat.reduceEqDiff, reduceCtorEq, Nat.reduceAdd, Nat.reduceLeDiff, Nat.reduceSub, Nat.reduceMul, Int.reduceEq, Nat.reduceBEq]) <;> rfl) H4 (Hp.sub.refl _) (hK [] 6 none 0 _ _ (.none hc hno) hl4 ((hL4.drop 4).push (b := hl4.fresh.choose) (fun _ e => by cases e) hl4.fresh.choose_spec (fun _ _ => rfl) ⟨rfl, rfl⟩))
    | true =>
      have hreach : Reach n (place a) (place b) := hr.1 rfl
      obtain ⟨K0, hK0⟩ := leastK_some hv hreach
      (try simp only [go_sem, ↓reduceIte, Nat.reduceEqDiff, reduceCtorEq, Nat.reduceAdd, Nat.reduceLeDiff, Nat.reduceSub, Nat.reduceMul, Int.reduceEq, Nat.reduceBEq, hba, hbb, hbn])
      refine aw_call (by (try simp only [go_sem, ↓reduceIte, Nat.reduceEqDiff, reduceCtorEq, Nat.reduceAdd, Nat.reduceLeDiff, Nat.reduceSub, Nat.reduceMul, Int.reduceEq, Nat.reduceBEq]) <;> rfl) (by (try simp only [go_sem, ↓reduceIte, Nat.reduceEqDiff, reduceCtorEq, Nat.reduceAdd, Nat.reduceLeDiff, Nat.reduceSub, Nat.reduceMul, Int.reduceEq, Nat.reduceBEq]) <;> rfl) (spec_begin b b.1.toNat b.2.toNat (by omega) (by omega) (by omega) (by omega) _ _ ?_)
      (try simp only [go_sem, ↓reduceIte, Nat.reduceEqDiff, reduceCtorEq, Nat.reduceAdd, Nat.reduceLeDiff, Nat.reduceSub, Nat.reduceMul, Int.reduceEq, Nat.reduceBEq])
      refine awL_bsl1 (gcells 2408 (only (place b))) hl4 hL4 (by (try simp only [go_sem, ↓reduceIte, Nat.reduceEqDiff, reduceCtorEq, Nat.reduceAdd, Nat.reduceLeDiff, Nat.reduceSub, Nat.reduceMul, Int.reduceEq, Nat.reduceBEq]) <;> rfl) (gc_len _ _) (gc_len _ _) fun b5 v5 H5 hl5 hL5 => ?_
      (try simp only [go_sem, ↓reduceIte, Nat.reduceEqDiff, reduceCtorEq, Nat.reduceAdd, Nat.reduceLeDiff, Nat.reduceSub, Nat.reduceMul, Int.reduceEq, Nat.reduceBEq])
      refine aw_loopM hl5 (fun m T' H' => ∃ (i : Nat) (kb : Option Nat) (v : Value), i ≤ K0 ∧ m = K0 - i ∧ T' 9 = v ∧ T' 10 = .int .i64 i ∧ Loc H H' [.own kb 90 2408 v (aheads n (place b) (i + 1)), .own (some b4) 37 2 v4 [encScan a, encScan b], .box bb 37 (encScan b) 2, .box ba 37 (encScan a) 2, .box bn 35 (encNet n s) 3]) K0 H5 (Hp.sub.refl _)
        ⟨0, some b5, v5, by omega, rfl, (by (try simp only [go_sem, ↓reduceIte, Nat.reduceEqDiff, reduceCtorEq, Nat.reduceAdd, Nat.reduceLeDiff, Nat.reduceSub, Nat.reduceMul, Int.reduceEq, Nat.reduceBEq]) <;> rfl), (by (try simp only [go_sem, ↓reduceIte, Nat.reduceEqDiff, reduceCtorEq, Nat.reduceAdd, Nat.reduceLeDiff, Nat.reduceSub, Nat.reduceMul, Int.reduceEq, Nat.reduceBEq]) <;> rfl), hL5⟩ ?_
      rintro m T' H' hl' hoff ⟨i, kb, v, hi, rfl, t9, t10, hL'⟩
      have t3 : T' 3 = .pointer (some ⟨bn, 0, none⟩) := by rw [hoff.get rfl]; (try simp only [go_sem, ↓reduceIte, Nat.reduceEqDiff, reduceCtorEq, Nat.reduceAdd, Nat.reduceLeDiff, Nat.reduceSub, Nat.reduceMul, Int.reduceEq, Nat.reduceBEq])
      have t4 : T' 4 = .pointer (some ⟨ba, 0, none⟩) := by rw [hoff.get rfl]; (try simp only [go_sem, ↓reduceIte, Nat.reduceEqDiff, reduceCtorEq, Nat.reduceAdd, Nat.reduceLeDiff, Nat.reduceSub, Nat.reduceMul, Int.reduceEq, Nat.reduceBEq])
      have hba := hL'.box 3 rfl
      have hbn := hL'.box 4 rfl
      rw [encScan_eq] at hba
      rw [netRow] at hbn
      have hK1 := hK0.one
      have hK3 := hK0.few
      obtain ⟨bk, off, hia, hrd, -, -⟩ := hL'.at 0 rfl (k := .i64) (j := (i : Int)) (by omega) (by rw [aheads_len]; omega)
      rw [Int.toNat_natCast, aheads_get _ _ _ _ (by omega)] at hrd
      have p1 := ptr_ix 8 301 bk off .i8 a.1 a.1.toNat (by omega) (by omega)
      have p2 := ptr_ix 301 1 bk (off + a.1.toNat * 301) .i16 a.2 a.2.toNat (by omega) (by omega)
      have rd1 := rd_gc hrd (k := a.1.toNat * 301 + a.2.toNat) (by omega)
      rw [show off + (a.1.toNat * 301 + a.2.toNat) = off + a.1.toNat * 301 + a.2.toNat * 1 by omega, show a.1.toNat * 301 + a.2.toNat = place a from rfl] at rd1
      by_cases hiK : i = K0
      · subst hiK
        rw [hK0.yes] at rd1
        have e0 : decide ((i : Int) = 0) = false := by simp; omega
        have w0 : IntKind.i64.wrap a.1 = a.1 := wrap_i64 (by omega) (by omega)
        (try simp only [go_sem, ↓reduceIte, Nat.reduceEqDiff, reduceCtorEq, Nat.reduceAdd, Nat.reduceLeDiff, Nat.reduceSub, Nat.reduceMul, Int.reduceEq, Nat.reduceBEq, t3, t4, t9, t10, hba, e0, hia, p1, p2, rd1, w0])
        refine aw_call (by (try simp only [go_sem, ↓reduceIte, Nat.reduceEqDiff, reduceCtorEq, Nat.reduceAdd, Nat.reduceLeDiff, Nat.reduceSub, Nat.reduceMul, Int.reduceEq, Nat.reduceBEq]) <;> rfl) (by (try simp only [go_sem, ↓reduceIte, Nat.reduceEqDiff, reduceCtorEq, Nat.reduceAdd, Nat.reduceLeDiff, Nat.reduceSub, Nat.reduceMul, Int.reduceEq, Nat.reduceBEq]) <;> rfl) (spec_begin a a.1.toNat a.2.toNat (by omega) (by omega) (by omega) (by omega) _ _ ?_)
        have p3 := gc_ixr 8 301 2408 (only (place a)) .i8 a.1 rfl (by omega)
        rw [show a.1.toNat * 301 + a.2.toNat = place a from rfl]
        (try simp only [go_sem, ↓reduceIte, Nat.reduceEqDiff, reduceCtorEq, Nat.reduceAdd, Nat.reduceLeDiff, Nat.reduceSub, Nat.reduceMul, Int.reduceEq, Nat.reduceBEq, t4, hba, p3])
        refine awL_bsl1 [.int .i64 a.1] hl' hL' (by (try simp only [go_sem, ↓reduceIte, Nat.reduceEqDiff, reduceCtorEq, Nat.reduceAdd, Nat.reduceLeDiff, Nat.reduceSub, Nat.reduceMul, Int.reduceEq, Nat.reduceBEq]) <;> rfl) rfl rfl fun b6 v6 H6 hl6 hL6 => ?_
        refine awL_alloc hl6 hL6 fun b7 H7 hl7 hL7 => ?_
        rw [gc_len] at hL7
        (try simp only [go_sem, ↓reduceIte, Nat.reduceEqDiff, reduceCtorEq, Nat.reduceAdd, Nat.reduceLeDiff, Nat.reduceSub, Nat.reduceMul, Int.reduceEq, Nat.reduceBEq])
        refine awL_st 0 hl7 hL7 rfl (by (try simp only [go_sem, ↓reduceIte, Nat.reduceEqDiff, reduceCtorEq, Nat.reduceAdd, Nat.reduceLeDiff, Nat.reduceSub, Nat.reduceMul, Int.reduceEq, Nat.reduceBEq]) <;> rfl) (by (try simp only [go_sem, ↓reduceIte, Nat.reduceEqDiff, reduceCtorEq, Nat.reduceAdd, Nat.reduceLeDiff, Nat.reduceSub, Nat.reduceMul, Int.reduceEq, Nat.reduceBEq]) <;> rfl) (gc_stall _ 301 _ _ _ (gc_len _ _)) fun H8 hl8 hL8 => ?_
        have hlen := hL8.len 2 rfl
        rw [aheads_len] at hlen
        have w2 : IntKind.i64.wrap (((i + 1 : Nat) : Int) - 2) = ((i : Int) - 1) := by rw [wrap_i64 (by omega) (by omega)]; omega
        (try simp only [go_sem, ↓reduceIte, Nat.reduceEqDiff, reduceCtorEq, Nat.reduceAdd, Nat.reduceLeDiff, Nat.reduceSub, Nat.reduceMul, Int.reduceEq, Nat.reduceBEq, t9, hlen, w2])
        have hL8' : Loc H H8 [.box b7 88 (gcells 301 (fun j => only (place a) (a.1.toNat * 301 + j))) 301, .own (some b6) 2 1 v6 ((([] : List Nat) ++ [a.1.toNat]).map encN), .own kb 90 2408 v (aheads n (place b) (i + 1)), .own (some b4) 37 2 v4 [encScan a, encScan b], .box bb 37 (encScan b) 2, .box ba 37 (encScan a) 2, .box bn 35 (encNet n s) 3] := by
          rw [show ((([] : List Nat) ++ [a.1.toNat]).map encN) = [[.int .i64 a.1]] by simp [encN, encI]; omega]
          exact hL8
        refine aw_loopM hl8 (fun m T' H' => ∃ (k : Nat) (now f : Nat → Bool) (out : List Nat) (last : Nat) (kb1 : Option Nat) (v1 : Value), m = k ∧ k ≤ i ∧ T' 11 = v1 ∧ T' 13 = .int .i64 ((k : Int) - 1) ∧ fwd n (place b) k now (out ++ [last]) = fewOut n a b i ∧ last < 8 ∧ At last now ∧ (∀ h, h < 301 → f h = now (last * 301 + h)) ∧ out.length + k ≤ i ∧ Loc H H' [.box b7 88 (gcells 301 f) 301, .own kb1 2 1 v1 ((out ++ [last]).map encN), .own kb 90 2408 v (aheads n (place b) (i + 1)), .own (some b4) 37 2 v4 [encScan a, encScan b], .box bb 37 (encScan b) 2, .box ba 37 (encScan a) 2, .box bn 35 (encNet n s) 3]) i H8 (Hp.sub.refl _)
          ⟨i, only (place a), _, [], a.1.toNat, some b6, v6, rfl, Nat.le_refl _, (by (try simp only [go_sem, ↓reduceIte, Nat.reduceEqDiff, reduceCtorEq, Nat.reduceAdd, Nat.reduceLeDiff, Nat.reduceSub, Nat.reduceMul, Int.reduceEq, Nat.reduceBEq]) <;> rfl), (by (try simp only [go_sem, ↓reduceIte, Nat.reduceEqDiff, reduceCtorEq, Nat.reduceAdd, Nat.reduceLeDiff, Nat.reduceSub, Nat.reduceMul, Int.reduceEq, Nat.reduceBEq]) <;> rfl), rfl, by omega, at_only _ _ (by omega), fun h _ => rfl, by simp, hL8'⟩ ?_
        clear hL8' hL8 hL7 hL6 hl6 hl7 hl8 hlen
        rintro m T2 H2 hl2 hoff2 ⟨k, now, f, out, last, kb1, v1, rfl, hk, u11, u13, hfwd, h8l, hat, hf, hlo, hL2⟩
        have u3 : T2 3 = .pointer (some ⟨bn, 0, none⟩) := by rw [hoff2.get rfl]; (try simp only [go_sem, ↓reduceIte, Nat.reduceEqDiff, reduceCtorEq, Nat.reduceAdd, Nat.reduceLeDiff, Nat.reduceSub, Nat.reduceMul, Int.reduceEq, Nat.reduceBEq, t3])
        have u9 : T2 9 = v := by rw [hoff2.get rfl]; (try simp only [go_sem, ↓reduceIte, Nat.reduceEqDiff, reduceCtorEq, Nat.reduceAdd, Nat.reduceLeDiff, Nat.reduceSub, Nat.reduceMul, Int.reduceEq, Nat.reduceBEq, t9])
        have u12 : T2 12 = .pointer (some ⟨b7, 0, none⟩) := by rw [hoff2.get rfl]; (try simp only [go_sem, ↓reduceIte, Nat.reduceEqDiff, reduceCtorEq, Nat.reduceAdd, Nat.reduceLeDiff, Nat.reduceSub, Nat.reduceMul, Int.reduceEq, Nat.reduceBEq])
        have hbn2 := hL2.box 6 rfl
        rw [netRow] at hbn2
        cases m with
        | zero =>
          have e1 : decide (((0 : Nat) : Int) - 1 ≥ 0) = false := rfl
          (try simp only [go_sem, ↓reduceIte, Nat.reduceEqDiff, reduceCtorEq, Nat.reduceAdd, Nat.reduceLeDiff, Nat.reduceSub, Nat.reduceMul, Int.reduceEq, Nat.reduceBEq, u13, e1])
          refine retQ_r2 (by (try simp only [go_sem, ↓reduceIte, Nat.reduceEqDiff, reduceCtorEq, Nat.reduceAdd, Nat.reduceLeDiff, Nat.reduceSub, Nat.reduceMul, Int.reduceEq, Nat.reduceBEq, u11]) <;> rfl) (by (try simp only [go_sem, ↓reduceIte, Nat.reduceEqDiff, reduceCtorEq, Nat.reduceAdd, Nat.reduceLeDiff, Nat.reduceSub, Nat.reduceMul, Int.reduceEq, Nat.reduceBEq]) <;> rfl) H2 (Hp.sub.refl _) (hK _ 0 kb1 2 v1 _ (.way hc hreach hK0) hl2 ?_)
          have := (hL2.drop 1).pick (L' := [.own kb1 2 1 v1 ((out ++ [last]).map encN)]) (by simp)
          rw [fwd] at hfwd
          rw [← hfwd]
          exact this
        | succ k =>
          have e1 : decide (((k + 1 : Nat) : Int) - 1 ≥ 0) = true := by simp
          (try simp only [go_sem, ↓reduceIte, Nat.reduceEqDiff, reduceCtorEq, Nat.reduceAdd, Nat.reduceLeDiff, Nat.reduceSub, Nat.reduceMul, Int.reduceEq, Nat.reduceBEq, u13, e1, u3, hbn2])
          have hst8 : n.st ≤ 8 ∧ 0 ≤ n.st := by omega
          refine aw_loopM hl2 (fun m T' H' => ∃ (s' : Nat) , s' ≤ n.st ∧ m = n.st.toNat - s' ∧ T' 78 = .int .i8 s' ∧ T' 11 = v1 ∧ (∀ r, r < s' → meetG (stepL n now (n.lanes.filter (toSt r))) (ahead n (place b) k) = false) ∧ Loc H H' [.box b7 88 (gcells 301 f) 301, .own kb1 2 1 v1 ((out ++ [last]).map encN), .own kb 90 2408 v (aheads n (place b) (i + 1)), .own (some b4) 37 2 v4 [encScan a, encScan b], .box bb 37 (encScan b) 2, .box ba 37 (encScan a) 2, .box bn 35 (encNet n s) 3]) n.st.toNat H2 (Hp.sub.refl _)
            ⟨0, by omega, rfl, (by (try simp only [go_sem, ↓reduceIte, Nat.reduceEqDiff, reduceCtorEq, Nat.reduceAdd, Nat.reduceLeDiff, Nat.reduceSub, Nat.reduceMul, Int.reduceEq, Nat.reduceBEq]) <;> rfl), (by (try simp only [go_sem, ↓reduceIte, Nat.reduceEqDiff, reduceCtorEq, Nat.reduceAdd, Nat.reduceLeDiff, Nat.reduceSub, Nat.reduceMul, Int.reduceEq, Nat.reduceBEq, u11]) <;> rfl), fun r hr => absurd hr (by omega), hL2⟩ ?_
          rintro m3 T3 H3 hl3 hoff3 ⟨s', hs', rfl, x78, x11, hnone, hL3⟩
          have x3 : T3 3 = .pointer (some ⟨bn, 0, none⟩) := by rw [hoff3.get rfl]; (try simp only [go_sem, ↓reduceIte, Nat.reduceEqDiff, reduceCtorEq, Nat.reduceAdd, Nat.reduceLeDiff, Nat.reduceSub, Nat.reduceMul, Int.reduceEq, Nat.reduceBEq, u3])
          have x9 : T3 9 = v := by rw [hoff3.get rfl]; (try simp only [go_sem, ↓reduceIte, Nat.reduceEqDiff, reduceCtorEq, Nat.reduceAdd, Nat.reduceLeDiff, Nat.reduceSub, Nat.reduceMul, Int.reduceEq, Nat.reduceBEq, u9])
          have x12 : T3 12 = .pointer (some ⟨b7, 0, none⟩) := by rw [hoff3.get rfl]; (try simp only [go_sem, ↓reduceIte, Nat.reduceEqDiff, reduceCtorEq, Nat.reduceAdd, Nat.reduceLeDiff, Nat.reduceSub, Nat.reduceMul, Int.reduceEq, Nat.reduceBEq, u12])
          have x13 : T3 13 = .int .i64 (((k + 1 : Nat) : Int) - 1) := by rw [hoff3.get rfl]; (try simp only [go_sem, ↓reduceIte, Nat.reduceEqDiff, reduceCtorEq, Nat.reduceAdd, Nat.reduceLeDiff, Nat.reduceSub, Nat.reduceMul, Int.reduceEq, Nat.reduceBEq, u13])
          have x77 : T3 77 = .int .i8 n.st := by rw [hoff3.get rfl]; (try simp only [go_sem, ↓reduceIte, Nat.reduceEqDiff, reduceCtorEq, Nat.reduceAdd, Nat.reduceLeDiff, Nat.reduceSub, Nat.reduceMul, Int.reduceEq, Nat.reduceBEq])
          have wk : IntKind.i64.wrap (((k + 1 : Nat) : Int) - 1 - 1) = (k : Int) - 1 := by rw [wrap_i64 (by omega) (by omega)]; omega
          by_cases hlt : (s' : Int) < n.st
          · have e2 : decide ((s' : Int) < n.st) = true := by simp [hlt]
            have hbn3 := hL3.box 6 rfl
            rw [netRow] at hbn3
            (try simp only [go_sem, ↓reduceIte, Nat.reduceEqDiff, reduceCtorEq, Nat.reduceAdd, Nat.reduceLeDiff, Nat.reduceSub, Nat.reduceMul, Int.reduceEq, Nat.reduceBEq, gc_rdall, gc_apart, gc_stall, gc_len, vBld_nil, x78, x77, e2, x3, hbn3])
            refine awL_alloc hl3 hL3 fun b15 H4 hl4 hL4 => ?_
            rw [gc_len] at hL4
            refine awL_st 0 hl4 hL4 rfl (by (try simp only [go_sem, ↓reduceIte, Nat.reduceEqDiff, reduceCtorEq, Nat.reduceAdd, Nat.reduceLeDiff, Nat.reduceSub, Nat.reduceMul, Int.reduceEq, Nat.reduceBEq]) <;> rfl) (by (try simp only [go_sem, ↓reduceIte, Nat.reduceEqDiff, reduceCtorEq, Nat.reduceAdd, Nat.reduceLeDiff, Nat.reduceSub, Nat.reduceMul, Int.reduceEq, Nat.reduceBEq]) <;> rfl) (gc_stall _ 301 _ _ _ (gc_len _ _)) fun H5 hl5 hL5 => ?_
            have hbn5 := hL5.box 7 rfl
            rw [netRow] at hbn5
            have hsl := hs.len
            rw [List.length_map] at hsl
            have hsle := hs.le
            rw [List.length_map] at hsle
            (try simp only [go_sem, ↓reduceIte, Nat.reduceEqDiff, reduceCtorEq, Nat.reduceAdd, Nat.reduceLeDiff, Nat.reduceSub, Nat.reduceMul, Int.reduceEq, Nat.reduceBEq, x3, hbn5, hsl])
            refine aw_range hl5 n.lanes.length (by omega) (fun q T' H' => Loc H H' [.box b15 88 (gcells 301 (rideL n last s' f (n.lanes.take q))) 301, .box b7 88 (gcells 301 f) 301, .own kb1 2 1 v1 ((out ++ [last]).map encN), .own kb 90 2408 v (aheads n (place b) (i + 1)), .own (some b4) 37 2 v4 [encScan a, encScan b], .box bb 37 (encScan b) 2, .box ba 37 (encScan a) 2, .box bn 35 (encNet n s) 3]) H5 (Hp.sub.refl _) (by (try simp only [go_sem, ↓reduceIte, Nat.reduceEqDiff, reduceCtorEq, Nat.reduceAdd, Nat.reduceLeDiff, Nat.reduceSub, Nat.reduceMul, Int.reduceEq, Nat.reduceBEq]) <;> rfl) (by (try simp only [go_sem, ↓reduceIte, Nat.reduceEqDiff, reduceCtorEq, Nat.reduceAdd, Nat.reduceLeDiff, Nat.reduceSub, Nat.reduceMul, Int.reduceEq, Nat.reduceBEq]) <;> rfl) ?_ rfl rfl (by decide) (by decide) ?_ ?_
            · rw [gc_ext (g' := fun x => false) fun u _ => by simp [rideL]]
              exact hL5
            · rintro q T6 H6 hq hl6 hoff6 hTq hL6
              have y3 : T6 3 = .pointer (some ⟨bn, 0, none⟩) := by rw [hoff6.get rfl]; (try simp only [go_sem, ↓reduceIte, Nat.reduceEqDiff, reduceCtorEq, Nat.reduceAdd, Nat.reduceLeDiff, Nat.reduceSub, Nat.reduceMul, Int.reduceEq, Nat.reduceBEq, x3])
              have y11 : T6 11 = v1 := by rw [hoff6.get rfl]; (try simp only [go_sem, ↓reduceIte, Nat.reduceEqDiff, reduceCtorEq, Nat.reduceAdd, Nat.reduceLeDiff, Nat.reduceSub, Nat.reduceMul, Int.reduceEq, Nat.reduceBEq, x11])
              have y12 : T6 12 = .pointer (some ⟨b7, 0, none⟩) := by rw [hoff6.get rfl]; (try simp only [go_sem, ↓reduceIte, Nat.reduceEqDiff, reduceCtorEq, Nat.reduceAdd, Nat.reduceLeDiff, Nat.reduceSub, Nat.reduceMul, Int.reduceEq, Nat.reduceBEq, x12])
              have y14 : T6 14 = .int .i8 s' := by rw [hoff6.get rfl]; (try simp only [go_sem, ↓reduceIte, Nat.reduceEqDiff, reduceCtorEq, Nat.reduceAdd, Nat.reduceLeDiff, Nat.reduceSub, Nat.reduceMul, Int.reduceEq, Nat.reduceBEq, x78])
              have y15 : T6 15 = .pointer (some ⟨b15, 0, none⟩) := by rw [hoff6.get rfl]; (try simp only [go_sem, ↓reduceIte, Nat.reduceEqDiff, reduceCtorEq, Nat.reduceAdd, Nat.reduceLeDiff, Nat.reduceSub, Nat.reduceMul, Int.reduceEq, Nat.reduceBEq])
              have y83 : T6 83 = s := by rw [hoff6.get rfl]; (try simp only [go_sem, ↓reduceIte, Nat.reduceEqDiff, reduceCtorEq, Nat.reduceAdd, Nat.reduceLeDiff, Nat.reduceSub, Nat.reduceMul, Int.reduceEq, Nat.reduceBEq])
              obtain ⟨bl, off, hia, hrd⟩ := (hs.sub hL6.sub).at (k := .i64) (i := (q : Int)) (by omega) (by simp; omega)
              have hrow : (n.lanes.map encLane).getD (q : Int).toNat [] = encLane n.lanes[q] := by simp [List.getD_eq_getElem?_getD, hq]
              rw [hrow, laneRow] at hrd
              have hmem : n.lanes[q] ∈ n.lanes := by simp
              have hlt : n.lanes.take (q + 1) = n.lanes.take q ++ [n.lanes[q]] := List.take_succ_eq_append_getElem hq
              generalize n.lanes[q] = l at *
              obtain ⟨ff, tt, hlv⟩ := laneV_of hv hmem
              have hlv0 := hlv
              obtain ⟨q1, q2, q8, r8, l1, lm, m40, s0, s40⟩ := hlv
              (try simp only [go_sem, ↓reduceIte, Nat.reduceEqDiff, reduceCtorEq, Nat.reduceAdd, Nat.reduceLeDiff, Nat.reduceSub, Nat.reduceMul, Int.reduceEq, Nat.reduceBEq, y83, hTq, hia, hrd])
              refine awL_alloc hl6 hL6 fun b17 H7 hl7 hL7 => ?_
              refine awL_st (xs' := encLane l) 0 hl7 hL7 rfl (by (try simp only [go_sem, ↓reduceIte, Nat.reduceEqDiff, reduceCtorEq, Nat.reduceAdd, Nat.reduceLeDiff, Nat.reduceSub, Nat.reduceMul, Int.reduceEq, Nat.reduceBEq]) <;> rfl) (by (try simp only [go_sem, ↓reduceIte, Nat.reduceEqDiff, reduceCtorEq, Nat.reduceAdd, Nat.reduceLeDiff, Nat.reduceSub, Nat.reduceMul, Int.reduceEq, Nat.reduceBEq]) <;> rfl) (by rw [laneRow]; rfl) fun H8 hl8 hL8 => ?_
              have hbl := hL8.box 0 rfl
              have hb7 := hL8.box 2 rfl
              have hbn8 := hL8.box 8 rfl
              rw [laneRow] at hbl
              rw [netRow] at hbn8
              have hlen := hL8.len 3 rfl
              obtain ⟨bo, oo, hia2, hrd2, -, -⟩ := hL8.at 3 rfl (k := .i64) (j := (out.length : Int)) (by omega) (by simp; omega)
              rw [show ((out ++ [last]).map encN).getD (out.length : Int).toNat [] = [.int .i64 last] by simp [List.getD_eq_getElem?_getD, encN, encI]] at hrd2
              have wl : IntKind.i64.wrap ((((out ++ [last]).map encN).length : Int) - 1) = out.length := by rw [wrap_i64 (by simp <;> omega) (by simp <;> omega)]; simp
              have wf : IntKind.i64.wrap l.frm = l.frm := wrap_i64 (by omega) (by omega)
              have hsnoc := rideL_snoc n last s' f (n.lanes.take q) l
              rw [← hlt] at hsnoc
              cases e3 : decide (l.frm = last) with
              | false =>
                (try simp only [go_sem, ↓reduceIte, Nat.reduceEqDiff, reduceCtorEq, Nat.reduceAdd, Nat.reduceLeDiff, Nat.reduceSub, Nat.reduceMul, Int.reduceEq, Nat.reduceBEq, hbl, y11, hlen, wl, wf, hia2, hrd2, e3])
                refine ⟨H8, Hp.sub.refl _, ?_⟩
                have := hL8.drop 1
                rw [← gc_ext (g := rideL n last s' f (n.lanes.take (q + 1))) (g' := rideL n last s' f (n.lanes.take q)) fun u _ => by rw [hsnoc, e3]; simp] at this
                exact this
              | true =>
                cases e4 : decide (l.to = s') with
                | false =>
                  (try simp only [go_sem, ↓reduceIte, Nat.reduceEqDiff, reduceCtorEq, Nat.reduceAdd, Nat.reduceLeDiff, Nat.reduceSub, Nat.reduceMul, Int.reduceEq, Nat.reduceBEq, hbl, y11, y14, hlen, wl, wf, hia2, hrd2, e3, e4])
                  refine ⟨H8, Hp.sub.refl _, ?_⟩
                  have := hL8.drop 1
                  rw [← gc_ext (g := rideL n last s' f (n.lanes.take (q + 1))) (g' := rideL n last s' f (n.lanes.take q)) fun u _ => by rw [hsnoc, e4]; simp] at this
                  exact this
                | true =>
                  (try simp only [go_sem, ↓reduceIte, Nat.reduceEqDiff, reduceCtorEq, Nat.reduceAdd, Nat.reduceLeDiff, Nat.reduceSub, Nat.reduceMul, Int.reduceEq, Nat.reduceBEq, gc_rdall, gc_apart, gc_stall, gc_len, vBld_nil, hbl, y3, y11, y12, y14, y15, hlen, wl, wf, hia2, hrd2, e3, e4, hb7, hbn8])
                  refine aw_call (by (try simp only [go_sem, ↓reduceIte, Nat.reduceEqDiff, reduceCtorEq, Nat.reduceAdd, Nat.reduceLeDiff, Nat.reduceSub, Nat.reduceMul, Int.reduceEq, Nat.reduceBEq, y15]) <;> rfl) (by (try simp only [go_sem, ↓reduceIte, Nat.reduceEqDiff, reduceCtorEq, Nat.reduceAdd, Nat.reduceLeDiff, Nat.reduceSub, Nat.reduceMul, Int.reduceEq, Nat.reduceBEq, y15]) <;> rfl) (spec_ride n s l hlv0 f (N := 301) _ (by omega) (hL8.box 1 rfl) _ ?_)
                  rw [← gc_ext (g := rideL n last s' f (n.lanes.take (q + 1))) (g' := gor (rideL n last s' f (n.lanes.take q)) (rideB l n f 0 301)) fun u _ => by rw [hsnoc, e3, e4]; simp [gor]]
                  (try simp only [go_sem, ↓reduceIte, Nat.reduceEqDiff, reduceCtorEq, Nat.reduceAdd, Nat.reduceLeDiff, Nat.reduceSub, Nat.reduceMul, Int.reduceEq, Nat.reduceBEq])
                  exact ⟨_, Hp.sub.refl _, (hL8.put 1 rfl).drop 1⟩
            · rintro T6 H6 hl6 hoff6 hTq hL6
              have y3 : T6 3 = .pointer (some ⟨bn, 0, none⟩) := by rw [hoff6.get rfl]; (try simp only [go_sem, ↓reduceIte, Nat.reduceEqDiff, reduceCtorEq, Nat.reduceAdd, Nat.reduceLeDiff, Nat.reduceSub, Nat.reduceMul, Int.reduceEq, Nat.reduceBEq, x3])
              have y9 : T6 9 = v := by rw [hoff6.get rfl]; (try simp only [go_sem, ↓reduceIte, Nat.reduceEqDiff, reduceCtorEq, Nat.reduceAdd, Nat.reduceLeDiff, Nat.reduceSub, Nat.reduceMul, Int.reduceEq, Nat.reduceBEq, x9])
              have y11 : T6 11 = v1 := by rw [hoff6.get rfl]; (try simp only [go_sem, ↓reduceIte, Nat.reduceEqDiff, reduceCtorEq, Nat.reduceAdd, Nat.reduceLeDiff, Nat.reduceSub, Nat.reduceMul, Int.reduceEq, Nat.reduceBEq, x11])
              have y12 : T6 12 = .pointer (some ⟨b7, 0, none⟩) := by rw [hoff6.get rfl]; (try simp only [go_sem, ↓reduceIte, Nat.reduceEqDiff, reduceCtorEq, Nat.reduceAdd, Nat.reduceLeDiff, Nat.reduceSub, Nat.reduceMul, Int.reduceEq, Nat.reduceBEq, x12])
              have y13 : T6 13 = .int .i64 (((k + 1 : Nat) : Int) - 1) := by rw [hoff6.get rfl]; (try simp only [go_sem, ↓reduceIte, Nat.reduceEqDiff, reduceCtorEq, Nat.reduceAdd, Nat.reduceLeDiff, Nat.reduceSub, Nat.reduceMul, Int.reduceEq, Nat.reduceBEq, x13])
              have y14 : T6 14 = .int .i8 s' := by rw [hoff6.get rfl]; (try simp only [go_sem, ↓reduceIte, Nat.reduceEqDiff, reduceCtorEq, Nat.reduceAdd, Nat.reduceLeDiff, Nat.reduceSub, Nat.reduceMul, Int.reduceEq, Nat.reduceBEq, x78])
              have y15 : T6 15 = .pointer (some ⟨b15, 0, none⟩) := by rw [hoff6.get rfl]; (try simp only [go_sem, ↓reduceIte, Nat.reduceEqDiff, reduceCtorEq, Nat.reduceAdd, Nat.reduceLeDiff, Nat.reduceSub, Nat.reduceMul, Int.reduceEq, Nat.reduceBEq])
              have y78 : T6 78 = .int .i8 s' := by rw [hoff6.get rfl]; (try simp only [go_sem, ↓reduceIte, Nat.reduceEqDiff, reduceCtorEq, Nat.reduceAdd, Nat.reduceLeDiff, Nat.reduceSub, Nat.reduceMul, Int.reduceEq, Nat.reduceBEq, x78])
              rw [List.take_length] at hL6
              have hb15 := hL6.box 0 rfl
              obtain ⟨bk, off, hia, hrd, -, -⟩ := hL6.at 3 rfl (k := .i64) (j := ((k + 1 : Nat) : Int) - 1) (by omega) (by rw [aheads_len]; omega)
              rw [show (((k + 1 : Nat) : Int) - 1).toNat = k by omega, aheads_get _ _ _ _ (by omega)] at hrd
              have p1 := ptr_ix 8 301 bk off .i8 (s' : Int) s' rfl (by omega)
              have rd1 := rd_gcs hrd (k := s' * 301) (m := 301) (by omega)
              have w8 : IntKind.i8.wrap ((s' : Int) + 1) = ((s' + 1 : Nat) : Int) := wrap_i8 (by omega) (by omega)
              have wc : IntKind.i64.wrap (s' : Int) = s' := wrap_i64 (by omega) (by omega)
              have hrs : ∀ u, u < 301 → rideL n last s' f n.lanes u = stepL n now (n.lanes.filter (toSt s')) (s' * 301 + u) := fun u hu => ride_step hv hat hf u hu
              (try simp only [go_sem, ↓reduceIte, Nat.reduceEqDiff, reduceCtorEq, Nat.reduceAdd, Nat.reduceLeDiff, Nat.reduceSub, Nat.reduceMul, Int.reduceEq, Nat.reduceBEq, gc_rdall, gc_apart, gc_stall, gc_len, vBld_nil, y9, y13, y14, y15, hb15, hia, p1, rd1])
              refine aw_call (by (try simp only [go_sem, ↓reduceIte, Nat.reduceEqDiff, reduceCtorEq, Nat.reduceAdd, Nat.reduceLeDiff, Nat.reduceSub, Nat.reduceMul, Int.reduceEq, Nat.reduceBEq, y15]) <;> rfl) (by (try simp only [go_sem, ↓reduceIte, Nat.reduceEqDiff, reduceCtorEq, Nat.reduceAdd, Nat.reduceLeDiff, Nat.reduceSub, Nat.reduceMul, Int.reduceEq, Nat.reduceBEq, y15]) <;> rfl) (spec_meet _ _ _ _ ?_)
              rw [meet_one (g := stepL n now (n.lanes.filter (toSt s'))) (c := ahead n (place b) k) (by omega) (at_step hv now s') hrs (fun h hh => rfl)]
              cases em : meetG (stepL n now (n.lanes.filter (toSt s'))) (ahead n (place b) k) with
              | false =>
                (try simp only [go_sem, ↓reduceIte, Nat.reduceEqDiff, reduceCtorEq, Nat.reduceAdd, Nat.reduceLeDiff, Nat.reduceSub, Nat.reduceMul, Int.reduceEq, Nat.reduceBEq, y78, w8])
                refine ⟨_, H6, ?_, Hp.sub.refl _, s' + 1, by omega, rfl, (by (try simp only [go_sem, ↓reduceIte, Nat.reduceEqDiff, reduceCtorEq, Nat.reduceAdd, Nat.reduceLeDiff, Nat.reduceSub, Nat.reduceMul, Int.reduceEq, Nat.reduceBEq]) <;> rfl), (by (try simp only [go_sem, ↓reduceIte, Nat.reduceEqDiff, reduceCtorEq, Nat.reduceAdd, Nat.reduceLeDiff, Nat.reduceSub, Nat.reduceMul, Int.reduceEq, Nat.reduceBEq, y11]) <;> rfl), fun r hr => ?_, hL6.drop 1⟩
                · omega
                · by_cases e : r = s'
                  · subst e; exact em
                  · exact hnone r (by omega)
              | true =>
                (try simp only [go_sem, ↓reduceIte, Nat.reduceEqDiff, reduceCtorEq, Nat.reduceAdd, Nat.reduceLeDiff, Nat.reduceSub, Nat.reduceMul, Int.reduceEq, Nat.reduceBEq, gc_rdall, gc_apart, gc_stall, gc_len, vBld_nil, y11, y12, y14, y15, hb15, wc])
                refine awL_bsl1 (encN s') hl6 hL6 (by (try simp only [go_sem, ↓reduceIte, Nat.reduceEqDiff, reduceCtorEq, Nat.reduceAdd, Nat.reduceLeDiff, Nat.reduceSub, Nat.reduceMul, Int.reduceEq, Nat.reduceBEq]) <;> rfl) rfl rfl fun b8 v8 H8 hl8 hL8 => ?_
                refine awL_app1 3 0 hl8 hL8 rfl rfl (by (try simp only [go_sem, ↓reduceIte, Nat.reduceEqDiff, reduceCtorEq, Nat.reduceAdd, Nat.reduceLeDiff, Nat.reduceSub, Nat.reduceMul, Int.reduceEq, Nat.reduceBEq, y11]) <;> rfl) (by (try simp only [go_sem, ↓reduceIte, Nat.reduceEqDiff, reduceCtorEq, Nat.reduceAdd, Nat.reduceLeDiff, Nat.reduceSub, Nat.reduceMul, Int.reduceEq, Nat.reduceBEq]) <;> rfl) rfl (by omega) (by simp; omega) fun kb9 v9 H9 hl9 hL9 => ?_
                have hb15' := hL9.box 1 rfl
                (try simp only [go_sem, ↓reduceIte, Nat.reduceEqDiff, reduceCtorEq, Nat.reduceAdd, Nat.reduceLeDiff, Nat.reduceSub, Nat.reduceMul, Int.reduceEq, Nat.reduceBEq, gc_rdall, gc_apart, gc_stall, gc_len, vBld_nil, y15, hb15'])
                refine awL_st 2 hl9 hL9 rfl (by (try simp only [go_sem, ↓reduceIte, Nat.reduceEqDiff, reduceCtorEq, Nat.reduceAdd, Nat.reduceLeDiff, Nat.reduceSub, Nat.reduceMul, Int.reduceEq, Nat.reduceBEq, y12]) <;> rfl) (by (try simp only [go_sem, ↓reduceIte, Nat.reduceEqDiff, reduceCtorEq, Nat.reduceAdd, Nat.reduceLeDiff, Nat.reduceSub, Nat.reduceMul, Int.reduceEq, Nat.reduceBEq]) <;> rfl) (gc_stall _ 301 _ _ _ (gc_len _ _)) fun H10 hl10 hL10 => ?_
                (try simp only [go_sem, ↓reduceIte, Nat.reduceEqDiff, reduceCtorEq, Nat.reduceAdd, Nat.reduceLeDiff, Nat.reduceSub, Nat.reduceMul, Int.reduceEq, Nat.reduceBEq, y13, wk])
                refine ⟨k, H10, by omega, Hp.sub.refl _, k, stepL n now (n.lanes.filter (toSt s')), rideL n last s' f n.lanes, out ++ [last], s', kb9, v9, rfl, by omega, (by (try simp only [go_sem, ↓reduceIte, Nat.reduceEqDiff, reduceCtorEq, Nat.reduceAdd, Nat.reduceLeDiff, Nat.reduceSub, Nat.reduceMul, Int.reduceEq, Nat.reduceBEq]) <;> rfl), (by (try simp only [go_sem, ↓reduceIte, Nat.reduceEqDiff, reduceCtorEq, Nat.reduceAdd, Nat.reduceLeDiff, Nat.reduceSub, Nat.reduceMul, Int.reduceEq, Nat.reduceBEq]) <;> rfl), ?_, by omega, at_step hv now s', hrs, by simp; omega, ?_⟩
                · rw [fwd, pick_some (by omega) hnone em] at hfwd
                  exact hfwd
                · have := hL10.drop 2
                  rw [List.map_append (l₂ := [s'])]
                  exact this
          · have e2 : decide ((s' : Int) < n.st) = false := by simp; omega
            (try simp only [go_sem, ↓reduceIte, Nat.reduceEqDiff, reduceCtorEq, Nat.reduceAdd, Nat.reduceLeDiff, Nat.reduceSub, Nat.reduceMul, Int.reduceEq, Nat.reduceBEq, x78, x77, e2, x13, wk])
            refine ⟨k, H3, by omega, Hp.sub.refl _, k, now, f, out, last, kb1, v1, rfl, by omega, (by (try simp only [go_sem, ↓reduceIte, Nat.reduceEqDiff, reduceCtorEq, Nat.reduceAdd, Nat.reduceLeDiff, Nat.reduceSub, Nat.reduceMul, Int.reduceEq, Nat.reduceBEq, x11]) <;> rfl), (by (try simp only [go_sem, ↓reduceIte, Nat.reduceEqDiff, reduceCtorEq, Nat.reduceAdd, Nat.reduceLeDiff, Nat.reduceSub, Nat.reduceMul, Int.reduceEq, Nat.reduceBEq]) <;> rfl), ?_, h8l, hat, hf, by omega, hL3⟩
            rw [fwd, pick_none fun r hr => hnone r (by omega)] at hfwd
            exact hfwd
      · have hno : (decide ((i : Int) = 0) = true ∧ True) ∨ (decide ((i : Int) = 0) = false ∧ ahead n (place b) i (place a) = false) := by
          by_cases h0 : i = 0
          · exact .inl ⟨by simp [h0], trivial⟩
          · exact .inr ⟨by simp; omega, hK0.no i (by omega) (by omega)⟩
        rcases hno with ⟨e0, e1⟩ | ⟨e0, e1⟩
        all_goals
          try rw [e1] at rd1
          (try simp only [go_sem, ↓reduceIte, Nat.reduceEqDiff, reduceCtorEq, Nat.reduceAdd, Nat.reduceLeDiff, Nat.reduceSub, Nat.reduceMul, Int.reduceEq, Nat.reduceBEq, t3, t4, t9, t10, hba, hbn, e0, hia, p1, p2, rd1, hrd, gc_apart])
          refine aw_call (by (try simp only [go_sem, ↓reduceIte, Nat.reduceEqDiff, reduceCtorEq, Nat.reduceAdd, Nat.reduceLeDiff, Nat.reduceSub, Nat.reduceMul, Int.reduceEq, Nat.reduceBEq]) <;> rfl) (by (try simp only [go_sem, ↓reduceIte, Nat.reduceEqDiff, reduceCtorEq, Nat.reduceAdd, Nat.reduceLeDiff, Nat.reduceSub, Nat.reduceMul, Int.reduceEq, Nat.reduceBEq]) <;> rfl) (spec_back n s hv (ahead n (place b) i) (hs.sub hL'.sub) _ ?_)
          (try simp only [go_sem, ↓reduceIte, Nat.reduceEqDiff, reduceCtorEq, Nat.reduceAdd, Nat.reduceLeDiff, Nat.reduceSub, Nat.reduceMul, Int.reduceEq, Nat.reduceBEq])
          refine awL_bsl1 (gcells 2408 (ahead n (place b) (i + 1))) hl' hL' (by (try simp only [go_sem, ↓reduceIte, Nat.reduceEqDiff, reduceCtorEq, Nat.reduceAdd, Nat.reduceLeDiff, Nat.reduceSub, Nat.reduceMul, Int.reduceEq, Nat.reduceBEq]) <;> rfl) (gc_len _ _) (gc_len _ _) fun b6 v6 H6 hl6 hL6 => ?_
          (try simp only [go_sem, ↓reduceIte, Nat.reduceEqDiff, reduceCtorEq, Nat.reduceAdd, Nat.reduceLeDiff, Nat.reduceSub, Nat.reduceMul, Int.reduceEq, Nat.reduceBEq])
          refine awL_app1 1 0 hl6 hL6 rfl rfl (by (try simp only [go_sem, ↓reduceIte, Nat.reduceEqDiff, reduceCtorEq, Nat.reduceAdd, Nat.reduceLeDiff, Nat.reduceSub, Nat.reduceMul, Int.reduceEq, Nat.reduceBEq]) <;> rfl) (by (try simp only [go_sem, ↓reduceIte, Nat.reduceEqDiff, reduceCtorEq, Nat.reduceAdd, Nat.reduceLeDiff, Nat.reduceSub, Nat.reduceMul, Int.reduceEq, Nat.reduceBEq]) <;> rfl) (gc_one _ _) (by omega) (by rw [aheads_len]; omega) fun kb7 v7 H7 hl7 hL7 => ?_
          have w1 : IntKind.i64.wrap ((i : Int) + 1) = ((i + 1 : Nat) : Int) := by rw [wrap_i64 (by omega) (by omega)]; simp
          (try simp only [go_sem, ↓reduceIte, Nat.reduceEqDiff, reduceCtorEq, Nat.reduceAdd, Nat.reduceLeDiff, Nat.reduceSub, Nat.reduceMul, Int.reduceEq, Nat.reduceBEq, t10, w1])
          refine ⟨_, H7, ?_, Hp.sub.refl _, i + 1, kb7, v7, by omega, rfl, (by (try simp only [go_sem, ↓reduceIte, Nat.reduceEqDiff, reduceCtorEq, Nat.reduceAdd, Nat.reduceLeDiff, Nat.reduceSub, Nat.reduceMul, Int.reduceEq, Nat.reduceBEq]) <;> rfl), (by (try simp only [go_sem, ↓reduceIte, Nat.reduceEqDiff, reduceCtorEq, Nat.reduceAdd, Nat.reduceLeDiff, Nat.reduceSub, Nat.reduceMul, Int.reduceEq, Nat.reduceBEq]) <;> rfl), ?_⟩
          · omega
          · have := hL7.drop 1
            rw [aheads_succ]
            exact this
  · rw [show netCode n ([a, b].map (·.1)) ([a, b].map (·.2)) = scanCode2 n a b from rfl]
    have e1 : decide (scanCode2 n a b = 0) = false := by simp [hc]
    (try simp only [go_sem, ↓reduceIte, Nat.reduceEqDiff, reduceCtorEq, Nat.reduceAdd, Nat.reduceLeDiff, Nat.reduceSub, Nat.reduceMul, Int.reduceEq, Nat.reduceBEq, e1])
    exact retQ_r2 (by (try simp only [go_sem, ↓reduceIte, Nat.reduceEqDiff, reduceCtorEq, Nat.reduceAdd, Nat.reduceLeDiff, Nat.reduceSub, Nat.reduceMul, Int.reduceEq, Nat.reduceBEq]) <;> rfl) (by (try simp only [go_sem, ↓reduceIte, Nat.reduceEqDiff, reduceCtorEq, Nat.reduceAdd, Nat.reduceLeDiff, Nat.reduceSub, Nat.reduceMul, Int.reduceEq, Nat.reduceBEq]) <;> rfl) H4 (Hp.sub.refl _) (hK [] _ none 0 _ _ (.bad hc) hl4 ((hL4.drop 4).push (b := hl4.fresh.choose) (fun _ e => by cases e) hl4.fresh.choose_spec (fun _ _ => rfl) ⟨rfl, rfl⟩))
end Go.Proofs.Ytonmmfjagkgifaa
