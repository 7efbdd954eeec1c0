/- Nets: hours along a lane. -/
import Derived.Test.YtonmmfjagkgifaaNet5
set_option linter.unusedVariables false
set_option linter.unusedSimpArgs false
namespace Go.Proofs.Ytonmmfjagkgifaa
open Go.RowKit
attribute [local go_sem] aw_mv aw_mkf aw_pick aw_bin aw_eqB aw_eqNil aw_eqAgg aw_un aw_conv aw_fa aw_ia aw_iaArr aw_ixArr aw_ixStr aw_fld aw_ext aw_bld aw_nilc aw_slc aw_slcArr aw_slcStr aw_len aw_cap aw_mnx aw_ld aw_st aw_guard_y aw_guard_n aw_nil aw_exit aw_ret aw_cond_t aw_cond_f aw_blk seqQ_norm seqQ_exit seqQ_ret blkQ_norm blkQ_exit_same blkQ_exit_ne blkQ_ret vPick_b vEqB_t vEqB_f vEqNil_sn vEqNil_ss vEqNil_pn vEqNil_ps vUn_neg vUn_not vUn_xor vConv_i vFa_p vIa_s vFld_a vExt_t vNilc_p vLen_s vLen_t vMnx_t vMnx_f abin_add abin_sub abin_mul abin_eql abin_neq abin_lss abin_leq abin_gtr abin_geq abin_and abin_or abin_xor abin_quo abin_rem abin_shl abin_shr abin_seq abin_sne abin_scat ev_tmp ev_const ev_func put_get puto_some puto_none args0_get List.getD_cons_succ List.getD_cons_zero Option.isSome_some Option.getD_some Option.isNone_none Option.isNone_some Option.map_some Option.map_none Value.bool.injEq Value.int.injEq add_mk aload_ptr rd_mk rdObj_row set_get astore_ptr apart_f apart_t List.length_cons List.length_nil List.drop_succ_cons List.drop_zero List.take_succ_cons List.take_zero List.map_cons List.map_nil Option.bind_some Option.bind_none ares_nil ares_tmp oneOf1 Nat.zero_add Nat.add_zero Bool.not_true Bool.not_false ne_eq not_false_eq_true not_true_eq_false decide_true decide_false Bool.true_and Bool.and_true Bool.false_eq_true and_self and_true true_and List.getElem?_cons_zero List.getElem?_cons_succ vc_agg vc_int vc_bool vc_slice aw_chk1 aw_chk2 st_agg st_int st_slice st_ptr one_int one_bool one_slice one_ptr one_str splice_eq aparts_nil aparts_cons afill_nil afill_cons rz0 rz1 rz2 List.all_cons List.all_nil Bool.and_self List.nil_append List.cons_append List.append_nil set_set

theorem ptr_ix (ln sz b o : Nat) (k : IntKind) (j : Int) (m : Nat) (hj : j = m) (hm : m < ln) : vIaArr ln sz (.pointer (some ⟨b, o, none⟩)) (.int k j) = some (.pointer (some ⟨b, o + m * sz, none⟩)) := by
  subst hj
  rw [vIaArr_p, if_pos (by omega), Int.toNat_natCast, add_mk]
theorem sub_get {H H' : Hp} {bt c : Nat} {r o : AObj} (h : (H.set bt r).sub H') (hc : H c = some o) (hne : c ≠ bt) : H' c = some o := h c o (by rw [set_ne hne]; exact hc)
theorem sub_at {H H' : Hp} {bt : Nat} {r : AObj} (h : (H.set bt r).sub H') : H' bt = some r := h bt r (set_same _ _ _)
theorem sub_st {H H' : Hp} {bt : Nat} {r r' : AObj} (h : (H.set bt r).sub H') : (H.set bt r').sub (H'.set bt r') := by
  have := sub_set2 (b := bt) (o := r') h
  rwa [set_set] at this
theorem sub_in {H : Hp} {bt b : Nat} {r o : AObj} (hb : H b = none) (hbt : H bt ≠ none) : (H.set bt r).sub ((H.set b o).set bt r) := by
  intro c x hc
  rw [set_get] at hc ⊢
  split
  · rename_i e; rw [if_pos e] at hc; exact hc
  · rename_i e
    rw [if_neg e] at hc
    rw [set_ne (by intro e2; subst e2; rw [hb] at hc; cases hc)]
    exact hc
/-- The hours at which a lane can arrive, from x = station * 301 + hour. -/
def spn (l : LaneD) (n : NetD) (x top : Nat) (i : Nat) : Bool := decide ((x : Int) + l.least ≤ i ∧ (i : Int) ≤ x + l.most + n.stay ∧ i ≤ top)
def gor (g p : Nat → Bool) : Nat → Bool := fun i => g i || p i
structure LaneV (n : NetD) (l : LaneD) (f t : Nat) : Prop where
  ef : l.frm = f
  et : l.to = t
  f8 : f < 8
  t8 : t < 8
  l1 : 1 ≤ l.least
  lm : l.least ≤ l.most
  m40 : l.most ≤ 40
  s0 : 0 ≤ n.stay
  s40 : n.stay ≤ 40
theorem laneV_of {n : NetD} (hv : validNet n = true) {l : LaneD} (hl : l ∈ n.lanes) : ∃ f t, LaneV n l f t := by
  simp only [validNet, Bool.and_eq_true, Bool.not_eq_true', List.any_eq_false, within, decide_eq_true_eq] at hv
  obtain ⟨⟨⟨h1, h2⟩, h3⟩, h4⟩ := hv
  have := h4 l hl
  simp only [laneBad, isSt, within, Bool.or_eq_true, Bool.not_eq_true', Bool.and_eq_false_iff, decide_eq_false_iff_not, decide_eq_true_eq, not_or] at this
  refine ⟨l.frm.toNat, l.to.toNat, ?_, ?_, ?_, ?_, ?_, ?_, ?_, ?_, ?_⟩ <;> omega
def alongTo (l : LaneD) (x d : Nat) : Nat → Bool := fun i => decide ((x : Int) + l.least ≤ i ∧ i < x + d)
theorem spec_l07Along (n : NetD) (s : Value) (l : LaneD) {f t : Nat} (hv : LaneV n l f t) (h : Nat) (hh : h ≤ 300) {H : Hp} {b ty tot bt tg tt : Nat} {own : Bool} (hb : H b = some (.row own ty (encNet n s) tot)) (hne : b ≠ bt) (g : Nat → Bool)
    (hbt : H bt = some (.row true tg (gcells 2408 g) tt)) (K : Value → Hp → Prop) (hK : K (oneOf []) (H.set bt (.row true tg (gcells 2408 (gor g (spn l n (t * 301 + h) (t * 301 + 300)))) tt))) :
    ACalls Go.Proofs.Try.prog n_spec_l07Along #[.pointer (some ⟨b, 0, none⟩), .pointer (some ⟨bt, 0, none⟩), .agg (encLane l).toArray, .int .i64 h] H K := by
  refine acalls_go fn_spec_l07Along rfl fun hl => ?_
  simp only [c_spec_l07Along]
  rw [netRow] at hb
  rw [laneRow]
  obtain ⟨e1, e2, f8, t8, l1, lm, m40, s0, s40⟩ := hv
  refine aw_boxv (by (try simp only [go_sem, ↓reduceIte, Nat.reduceEqDiff, reduceCtorEq, Nat.reduceAdd, Nat.reduceLeDiff, Nat.reduceSub, Nat.reduceMul, Int.reduceEq, Nat.reduceBEq]) <;> rfl) fun b6 hb6 => ?_
  have x1 := some_ne hb hb6
  have x2 := some_ne hbt hb6
  have w1 : IntKind.i64.wrap l.least = l.least := wrap_i64 (by omega) (by omega)
  have w2 : IntKind.i64.wrap l.most = l.most := wrap_i64 (by omega) (by omega)
  have w3 : IntKind.i64.wrap n.stay = n.stay := wrap_i64 (by omega) (by omega)
  have w4 : IntKind.i64.wrap (l.most + n.stay) = l.most + n.stay := wrap_i64 (by omega) (by omega)
  simp only [go_sem, ↓reduceIte, Nat.reduceEqDiff, reduceCtorEq, Nat.reduceAdd, Nat.reduceLeDiff, Nat.reduceSub, Nat.reduceMul, Int.reduceEq, Nat.reduceBEq, w1]
  generalize hL : H.set b6 (.row true 95 [.int .i8 l.frm, .int .i8 l.to, .int .i16 l.least, .int .i16 l.most] 4) = HL at *
  have hlL : Live HL := by rw [← hL]; exact (by repeat (first | (with_reducible assumption) | (with_reducible apply Live.set) | (simp [gc_len]; done) | exact Nat.le_refl _))
  have g6 : HL b6 = some (.row true 95 [.int .i8 l.frm, .int .i8 l.to, .int .i16 l.least, .int .i16 l.most] 4) := by rw [← hL, set_same]
  have gb : HL b = some (.row own ty [.int .i8 n.st, .int .i16 n.stay, s] tot) := by rw [← hL, set_ne x1]; exact hb
  have gt : HL bt = some (.row true tg (gcells 2408 g) tt) := by rw [← hL, set_ne x2]; exact hbt
  have fin : ∀ d : Nat, ((d : Int) = l.least ∨ ((d : Int) - 1 ≤ l.most + n.stay ∧ h + d ≤ 301)) → l.least ≤ d → (¬ (d : Int) ≤ l.most + n.stay ∨ 300 < h + d) →
      gcells 2408 (gor g (alongTo l (t * 301 + h) d)) = gcells 2408 (gor g (spn l n (t * 301 + h) (t * 301 + 300))) := by
    intro d hd1 hd2 hd3
    refine gc_ext fun i _ => ?_
    simp only [gor, spn, alongTo]
    exact congrArg (fun z => g i || z) (decide_eq_decide.2 (by omega))
  refine aw_loopM hlL (fun m T' H' => ∃ d : Nat, ((d : Int) = l.least ∨ ((d : Int) - 1 ≤ l.most + n.stay ∧ h + d ≤ 301)) ∧ l.least ≤ d ∧ m = 400 - d ∧ T' 8 = .int .i64 d ∧ (HL.set bt (.row true tg (gcells 2408 (gor g (alongTo l (t * 301 + h) d))) tt)).sub H') (400 - l.least.toNat) HL (Hp.sub.refl _)
    ⟨l.least.toNat, .inl (by omega), by omega, rfl, ?_, ?_⟩ ?_
  · simp only [go_sem, ↓reduceIte, Nat.reduceEqDiff, reduceCtorEq, Nat.reduceAdd, Nat.reduceLeDiff, Nat.reduceSub, Nat.reduceMul, Int.reduceEq, Nat.reduceBEq]
    congr 1; omega
  · refine sub_set_at (Hp.sub.refl _) ?_
    rw [gt, show gcells 2408 (gor g (alongTo l (t * 301 + h) l.least.toNat)) = gcells 2408 g from gc_ext fun i _ => ?_]
    simp only [gor, alongTo]
    rw [show decide (((t * 301 + h : Nat) : Int) + l.least ≤ i ∧ i < t * 301 + h + l.least.toNat) = false from decide_eq_false_iff_not.2 (by omega)]
    simp
  · rintro m T' H' hl' hoff ⟨d, hd1, hd2, rfl, hT8, hsub⟩
    have t0 : T' 0 = .pointer (some ⟨b, 0, none⟩) := by rw [hoff.get rfl]; simp only [go_sem, ↓reduceIte, Nat.reduceEqDiff, reduceCtorEq, Nat.reduceAdd, Nat.reduceLeDiff, Nat.reduceSub, Nat.reduceMul, Int.reduceEq, Nat.reduceBEq]
    have t1 : T' 1 = .pointer (some ⟨bt, 0, none⟩) := by rw [hoff.get rfl]; simp only [go_sem, ↓reduceIte, Nat.reduceEqDiff, reduceCtorEq, Nat.reduceAdd, Nat.reduceLeDiff, Nat.reduceSub, Nat.reduceMul, Int.reduceEq, Nat.reduceBEq]
    have t3 : T' 3 = .int .i64 h := by rw [hoff.get rfl]; simp only [go_sem, ↓reduceIte, Nat.reduceEqDiff, reduceCtorEq, Nat.reduceAdd, Nat.reduceLeDiff, Nat.reduceSub, Nat.reduceMul, Int.reduceEq, Nat.reduceBEq]
    have t6 : T' 6 = .pointer (some ⟨b6, 0, none⟩) := by rw [hoff.get rfl]; simp only [go_sem, ↓reduceIte, Nat.reduceEqDiff, reduceCtorEq, Nat.reduceAdd, Nat.reduceLeDiff, Nat.reduceSub, Nat.reduceMul, Int.reduceEq, Nat.reduceBEq]
    have r6 : H' b6 = _ := sub_get hsub g6 (Ne.symm x2)
    have rb : H' b = _ := sub_get hsub gb hne
    have rt : H' bt = _ := sub_at hsub
    by_cases c1 : (d : Int) ≤ l.most + n.stay
    · have k1 : decide ((d : Int) ≤ l.most + n.stay) = true := by simp [c1]
      have w5 : IntKind.i64.wrap ((h : Int) + d) = ((h + d : Nat) : Int) := by rw [wrap_i64 (by omega) (by omega)]; simp
      by_cases c2 : h + d ≤ 300
      · have k2 : decide (((h + d : Nat) : Int) ≤ 300) = true := by simp; omega
        have p1 := ptr_ix 8 301 bt 0 .i8 l.to t e2 t8
        have p2 := ptr_ix 301 1 bt (t * 301) .i64 ((h + d : Nat) : Int) (h + d) rfl (by omega)
        have st := gc_st1 tg 2408 tt (gor g (alongTo l (t * 301 + h) d)) (t * 301 + (h + d) * 1) true (by omega)
        rw [← rt] at st
        have w6 : IntKind.i64.wrap ((d : Int) + 1) = ((d + 1 : Nat) : Int) := by rw [wrap_i64 (by omega) (by omega)]; simp
        simp only [go_sem, ↓reduceIte, Nat.reduceEqDiff, reduceCtorEq, Nat.reduceAdd, Nat.reduceLeDiff, Nat.reduceSub, Nat.reduceMul, Int.reduceEq, Nat.reduceBEq, t0, t1, t3, t6, hT8, r6, rb, w2, w3, w4, w5, k1, k2, p1, p2, st, w6]
        refine ⟨400 - (d + 1), _, by omega, Hp.sub.refl _, d + 1, .inr (by omega), by omega, rfl, (by (try simp only [go_sem, ↓reduceIte, Nat.reduceEqDiff, reduceCtorEq, Nat.reduceAdd, Nat.reduceLeDiff, Nat.reduceSub, Nat.reduceMul, Int.reduceEq, Nat.reduceBEq]) <;> rfl), ?_⟩
        have e : gcells 2408 (gup (gor g (alongTo l (t * 301 + h) d)) (t * 301 + (h + d) * 1) true) = gcells 2408 (gor g (alongTo l (t * 301 + h) (d + 1))) := by
          refine gc_ext fun i _ => ?_
          simp only [gup, gor, alongTo]
          split
          · rename_i hi
            rw [show decide (((t * 301 + h : Nat) : Int) + l.least ≤ i ∧ i < t * 301 + h + (d + 1)) = true from decide_eq_true (by omega)]
            simp
          · exact congrArg (fun z => g i || z) (decide_eq_decide.2 (by omega))
        rw [e]
        exact sub_st hsub
      · have k2 : decide (((h + d : Nat) : Int) ≤ 300) = false := by simp; omega
        simp only [go_sem, ↓reduceIte, Nat.reduceEqDiff, reduceCtorEq, Nat.reduceAdd, Nat.reduceLeDiff, Nat.reduceSub, Nat.reduceMul, Int.reduceEq, Nat.reduceBEq, t0, t1, t3, t6, hT8, r6, rb, w2, w3, w4, w5, k1, k2]
        show lpQ _ _ _ (.exit 0) _ _
        simp only [lpQ]
        simp only [go_sem, ↓reduceIte, Nat.reduceEqDiff, reduceCtorEq, Nat.reduceAdd, Nat.reduceLeDiff, Nat.reduceSub, Nat.reduceMul, Int.reduceEq, Nat.reduceBEq]
        rw [fin d hd1 hd2 (by omega)] at hsub
        refine retQ_n0 _ ?_ hK
        refine Hp.sub.trans ?_ hsub
        rw [← hL]
        exact sub_in hb6 (by rw [hbt]; simp)
    · have k1 : decide ((d : Int) ≤ l.most + n.stay) = false := by simp; omega
      simp only [go_sem, ↓reduceIte, Nat.reduceEqDiff, reduceCtorEq, Nat.reduceAdd, Nat.reduceLeDiff, Nat.reduceSub, Nat.reduceMul, Int.reduceEq, Nat.reduceBEq, t0, t1, t3, t6, hT8, r6, rb, w2, w3, w4, k1]
      show lpQ _ _ _ (.exit 0) _ _
      simp only [lpQ]
      simp only [go_sem, ↓reduceIte, Nat.reduceEqDiff, reduceCtorEq, Nat.reduceAdd, Nat.reduceLeDiff, Nat.reduceSub, Nat.reduceMul, Int.reduceEq, Nat.reduceBEq]
      rw [fin d hd1 hd2 (by omega)] at hsub
      refine retQ_n0 _ ?_ hK
      refine Hp.sub.trans ?_ hsub
      rw [← hL]
      exact sub_in hb6 (by rw [hbt]; simp)
end Go.Proofs.Ytonmmfjagkgifaa
